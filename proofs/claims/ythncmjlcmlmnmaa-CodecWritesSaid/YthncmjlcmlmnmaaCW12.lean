/- Functions without memory, and that the Go functions are followed by them. Printed by gen.py. Conditions: none. -/
import Derived.Test.YthncmjlcmlmnmaaCW9
import Derived.Test.YthncmjlcmlmnmaaCW11
import Derived.Test.YthncmjlcmlmnmaaCW10
namespace Go.Proofs.Ythncmjlcmlmnmaa
open Go V
set_option maxRecDepth 100000
set_option maxHeartbeats 4000000
def p45_1 {ρ : Type} (fail : ρ) (fu : Nat)  (K0 : Int → Int → Int → Int → Int → Bool → Int → Int → ByteArray → EL → EL → Int → EL → Int → ρ)  (y1 : Int) (y4 : Int) (y7 : Int) (y10 : Int) (y13 : Int) (j21 : Bool) (j25 : Int) (j26 : Int) (j27 : ByteArray) (j28 : EL) (j29 : EL) (y30 : Int) (z40 : EL) (j47 : Bool) : ρ :=
  bif j47 then (K0 0 0 0 0 0 false 0 0 ⟨#[]⟩ nilE nilE 0 nilE 5) else (K0 y1 y4 y7 y10 y13 j21 j25 j26 j27 j28 j29 y30 z40 0)
def p45_2 {ρ : Type} (fail : ρ) (fu : Nat)  (K0 : Int → Int → Int → Int → Int → Bool → Int → Int → ByteArray → EL → EL → Int → EL → Int → ρ) (rec1 : EL → Int → EL → Int → ρ) (y1 : Int) (y4 : Int) (y7 : Int) (y10 : Int) (y13 : Int) (j21 : Bool) (j25 : Int) (j26 : Int) (j27 : ByteArray) (j28 : EL) (j29 : EL) (y30 : Int) (z38 : EL) (z39 : Int) (z40 : EL) (z41 : Int) (j42 : Bool) : ρ :=
  bif j42 then (p95 fail fu (fun y43 y44 y45 => tobP fail y43 (fun s46 => gd (1 ≤ [[(CV.v (.string s46))]].length) fail (gd ((z40.length + (List.take 1 [[(CV.v (.string s46))]]).length) * 16 ≤ 35184372088832) fail (rec1 y44 y45 (z40 ++ (List.take 1 [[(CV.v (.string s46))]])) (binStd .sub .i64 z41 1))))) z38 z39 24) else (bif (cmpStd .neq z39 0) then (p45_1 fail fu  K0 y1 y4 y7 y10 y13 j21 j25 j26 j27 j28 j29 y30 z40 true) else (p45_1 fail fu  K0 y1 y4 y7 y10 y13 j21 j25 j26 j27 j28 j29 y30 z40 (cmpStd .gtr ((z38.length : Nat) : Int) 0)))
def p45_3 {ρ : Type} (fail : ρ) (fu : Nat)  (K0 : Int → Int → Int → Int → Int → Bool → Int → Int → ByteArray → EL → EL → Int → EL → Int → ρ) (rec1 : EL → Int → EL → Int → ρ) (y1 : Int) (y4 : Int) (y7 : Int) (y10 : Int) (y13 : Int) (j21 : Bool) (j25 : Int) (j26 : Int) (j27 : ByteArray) (j28 : EL) (j29 : EL) (y30 : Int) (z38 : EL) (z39 : Int) (z40 : EL) (z41 : Int) : ρ :=
  bif (cmpStd .gtr z41 0) then (p45_2 fail fu  K0 rec1 y1 y4 y7 y10 y13 j21 j25 j26 j27 j28 j29 y30 z38 z39 z40 z41 (cmpStd .eql z39 0)) else (p45_2 fail fu  K0 rec1 y1 y4 y7 y10 y13 j21 j25 j26 j27 j28 j29 y30 z38 z39 z40 z41 false)
def p45_3L {ρ : Type} (fail : ρ) (fu : Nat)  (K0 : Int → Int → Int → Int → Int → Bool → Int → Int → ByteArray → EL → EL → Int → EL → Int → ρ)  (y1 : Int) (y4 : Int) (y7 : Int) (y10 : Int) (y13 : Int) (j21 : Bool) (j25 : Int) (j26 : Int) (j27 : ByteArray) (j28 : EL) (j29 : EL) (y30 : Int) : Nat → EL → Int → EL → Int → ρ
  | 0, _, _, _, _ => fail
  | n + 1, z38, z39, z40, z41 => p45_3 fail fu  K0 (p45_3L fail fu  K0  y1 y4 y7 y10 y13 j21 j25 j26 j27 j28 j29 y30 n) y1 y4 y7 y10 y13 j21 j25 j26 j27 j28 j29 y30 z38 z39 z40 z41
def p45_4 {ρ : Type} (fail : ρ) (fu : Nat)  (K0 : Int → Int → Int → Int → Int → Bool → Int → Int → ByteArray → EL → EL → Int → EL → Int → ρ)  (y1 : Int) (y4 : Int) (y7 : Int) (y10 : Int) (y13 : Int) (j21 : Bool) (j25 : Int) (j26 : Int) (j27 : ByteArray) (j28 : EL) (j29 : EL) (y30 : Int) (y33 : Int) (j36 : EL) (j37 : Int) : ρ :=
  p45_3L fail fu  K0 y1 y4 y7 y10 y13 j21 j25 j26 j27 j28 j29 y30 fu j36 j37 nilE y33
def p45_5 {ρ : Type} (fail : ρ) (fu : Nat)  (K0 : Int → Int → Int → Int → Int → Bool → Int → Int → ByteArray → EL → EL → Int → EL → Int → ρ)  (y1 : Int) (y4 : Int) (y7 : Int) (y10 : Int) (y13 : Int) (j21 : Bool) (j23 : EL) (j24 : Int) (j25 : Int) (j26 : Int) (j27 : ByteArray) (j28 : EL) (j29 : EL) : ρ :=
  p91 fail fu (fun y30 y31 y32 => p91 fail fu (fun y33 y34 y35 => bif (cmpStd .gtr y33 65536) then (p94 fail fu (fun y48 y49 => p45_4 fail fu  K0 y1 y4 y7 y10 y13 j21 j25 j26 j27 j28 j29 y30 y33 y48 y49) y34 y35 5) else (p45_4 fail fu  K0 y1 y4 y7 y10 y13 j21 j25 j26 j27 j28 j29 y30 y33 y34 y35)) y31 y32) j23 j24
def p45_6 {ρ : Type} (fail : ρ) (fu : Nat)  (K0 : Int → Int → Int → Int → Int → Bool → Int → Int → ByteArray → EL → EL → Int → EL → Int → ρ)  (y1 : Int) (y4 : Int) (y7 : Int) (y10 : Int) (y13 : Int) (j21 : Bool) (y50 : Int) (y51 : Int) (y52 : ByteArray) (y53 : EL) (y54 : EL) (j58 : EL) (j59 : Int) : ρ :=
  p45_5 fail fu  K0 y1 y4 y7 y10 y13 j21 j58 j59 y50 y51 y52 y53 y54
def p45_7 {ρ : Type} (fail : ρ) (fu : Nat)  (K0 : Int → Int → Int → Int → Int → Bool → Int → Int → ByteArray → EL → EL → Int → EL → Int → ρ)  (y1 : Int) (y4 : Int) (y7 : Int) (y10 : Int) (y13 : Int) (j19 : EL) (j20 : Int) (j21 : Bool) (j22 : Bool) : ρ :=
  bif j22 then (p65 fail fu (fun y50 y51 y52 y53 y54 y55 y56 => p86 fail fu (fun y57 => bif y57 then (p94 fail fu (fun y60 y61 => p45_6 fail fu  K0 y1 y4 y7 y10 y13 j21 y50 y51 y52 y53 y54 y60 y61) y55 y56 5) else (p45_6 fail fu  K0 y1 y4 y7 y10 y13 j21 y50 y51 y52 y53 y54 y55 y56)) y50 y51 y52 y53 y54 0 0 ⟨#[]⟩ nilE nilE) j19 j20) else (p45_5 fail fu  K0 y1 y4 y7 y10 y13 j21 j19 j20 0 0 ⟨#[]⟩ nilE nilE)
end Go.Proofs.Ythncmjlcmlmnmaa

namespace Go.Proofs.Ythncmjlcmlmnmaa
open Go V
set_option maxRecDepth 100000
set_option maxHeartbeats 4000000
def p37_1 {ρ : Type} (fail : ρ) (fu : Nat) (s_p37 : (Bool → ρ) → Int → Int → EL → Int → Int → EL → ρ) (K0 : Bool → ρ) (rec1 : Int → ρ) (x2 : EL) (x5 : EL) (z2 : Int) : ρ :=
  bif (cmpStd .lss z2 ((x2.length : Nat) : Int)) then (gd ((0 : Int) ≤ z2) fail (gd ((z2 : Int) < (x2.length : Nat)) fail (rw_i64_i64_l3 fail (List.getD x2 ((z2 : Int).toNat) []) (fun c3 c4 c5 => gd ((0 : Int) ≤ z2) fail (gd ((z2 : Int) < (x5.length : Nat)) fail (rw_i64_i64_l3 fail (List.getD x5 ((z2 : Int).toNat) []) (fun c6 c7 c8 => s_p37 (fun y9 => bif (!y9) then (K0 false) else (rec1 (binStd .add .i64 z2 1))) c3 c4 c5 c6 c7 c8))))))) else (K0 true)
def p37_1L {ρ : Type} (fail : ρ) (fu : Nat) (s_p37 : (Bool → ρ) → Int → Int → EL → Int → Int → EL → ρ) (K0 : Bool → ρ)  (x2 : EL) (x5 : EL) : Nat → Int → ρ
  | 0, _ => fail
  | n + 1, z2 => p37_1 fail fu s_p37 K0 (p37_1L fail fu s_p37 K0  x2 x5 n) x2 x5 z2
def p37_2 {ρ : Type} (fail : ρ) (fu : Nat) (s_p37 : (Bool → ρ) → Int → Int → EL → Int → Int → EL → ρ) (K0 : Bool → ρ)  (x2 : EL) (x5 : EL) (j1 : Bool) : ρ :=
  bif j1 then (K0 false) else (p37_1L fail fu s_p37 K0 x2 x5 fu 0)
/-- ref4.Equal -/
def p37_b {ρ : Type} (fail : ρ) (fu : Nat) (s_p37 : (Bool → ρ) → Int → Int → EL → Int → Int → EL → ρ) (K0 : Bool → ρ) (x0 : Int) (x1 : Int) (x2 : EL) (x3 : Int) (x4 : Int) (x5 : EL) : ρ :=
  bif (cmpStd .neq x0 x3) then (p37_2 fail fu s_p37 K0 x2 x5 true) else (bif (cmpStd .neq x1 x4) then (p37_2 fail fu s_p37 K0 x2 x5 true) else (p37_2 fail fu s_p37 K0 x2 x5 (cmpStd .neq ((x2.length : Nat) : Int) ((x5.length : Nat) : Int))))
def p37 {ρ : Type} (fail : ρ) : Nat → (Bool → ρ) → Int → Int → EL → Int → Int → EL → ρ
  | 0, _, _, _, _, _, _, _ => fail
  | n + 1, K0, x0, x1, x2, x3, x4, x5 => p37_b fail n (p37 fail n) K0 x0 x1 x2 x3 x4 x5
def D_p37 (fu : Nat) : Prop := ∀ {K0 : Bool → Prop} (L : EL → Nat) (_ : L = List.length) {x0 : Int} {x1 : Int} {x2 : EL} {x3 : Int} {x4 : Int} {x5 : EL} (_ : p37 False fu K0 x0 x1 x2 x3 x4 x5), Den Try.prog G0 37 [.agg [.c (.v (.int .i64 x0)), .c (.v (.int .i64 x1)), .c (.sl 3 x2 none)], .agg [.c (.v (.int .i64 x3)), .c (.v (.int .i64 x4)), .c (.sl 3 x5 none)]] (fun r bs => (∃ (y0 : Bool) (o0 : OV) (o1 : OV), (r = .c (.v (.bool y0)) ∧ bs = [o0, o1]) ∧ K0 y0))
theorem b_p37 (fu : Nat) (ih_p37 : D_p37 fu) {K0 : Bool → Prop} (L : EL → Nat) (hN : L = List.length) {x0 : Int} {x1 : Int} {x2 : EL} {x3 : Int} {x4 : Int} {x5 : EL} (h : p37_b False fu (p37 False fu) K0 x0 x1 x2 x3 x4 x5) : Den Try.prog G0 37 [.agg [.c (.v (.int .i64 x0)), .c (.v (.int .i64 x1)), .c (.sl 3 x2 none)], .agg [.c (.v (.int .i64 x3)), .c (.v (.int .i64 x4)), .c (.sl 3 x5 none)]] (fun r bs => (∃ (y0 : Bool) (o0 : OV) (o1 : OV), (r = .c (.v (.bool y0)) ∧ bs = [o0, o1]) ∧ K0 y0)) := by
  obtain ⟨O, hO⟩ : ∃ O, O = std 0 T G0 (Den Try.prog G0) := ⟨_, rfl⟩
  have hLO : L = O.len := by rw [hN, hO]; rfl
  subst hLO
  refine den_h hO tiA mixed tabOk (fn := Try.f37) (sh := true) (by kernel_rfl) rfl rfl rfl rfl ?_
  intro Q hQ
  unfold p37_b at h
  conv => cbv
  refine reg_join hO tiA [2, 3, 26] [3000, 4000] [] (fun tm m => ∃ (j1 : Bool), ((tm = frame 0 46 [(2, .p 3000 0 0), (3, .p 4000 0 0), (26, .c (.v (.bool j1)))] ∧ m = ⟨[(3000, .blk 0 [.c (.v (.int .i64 x0)), .c (.v (.int .i64 x1)), .c (.sl 3 x2 none)]), (4000, .blk 0 [.c (.v (.int .i64 x3)), .c (.v (.int .i64 x4)), .c (.sl 3 x5 none)])], 1⟩)) ∧ p37_2 False fu (p37 False fu) K0 x2 x5 j1) (fun L hL_2 => ?_) ?_
  · conv => cbv
    refine br_h hO h (by subst hO; rfl) (fun hc4 h => ?_) (fun hc4 h => ?_)
    · conv => cbv
      refine br_t hO hc4 ?_
      conv => cbv
      refine br_t hO hc4 ?_
      conv => cbv
      refine br_t hO hc4 ?_
      conv => cbv
      refine br_t hO hc4 ?_
      conv => cbv
      refine br_t hO hc4 ?_
      conv => cbv
      refine br_t hO rfl ?_
      conv => cbv
      refine br_t hO rfl ?_
      conv => cbv
      refine br_t hO rfl ?_
      conv => cbv
      refine br_t hO rfl ?_
      conv => cbv
      refine br_t hO rfl ?_
      conv => cbv
      refine br_t hO rfl ?_
      conv => cbv
      refine br_t hO rfl ?_
      conv => cbv
      refine br_t hO rfl ?_
      conv => cbv
      exact hL_2 _ _ ⟨true, ⟨(by (conv => lhs; cbv) <;> (subst hO; rfl)), (by (conv => lhs; cbv) <;> (subst hO; rfl))⟩, h⟩
    · conv => cbv
      refine br_f hO hc4 ?_
      conv => cbv
      refine br_f hO hc4 ?_
      conv => cbv
      refine br_f hO hc4 ?_
      conv => cbv
      refine br_f hO hc4 ?_
      conv => cbv
      refine br_f hO hc4 ?_
      conv => cbv
      refine br_h hO h (by subst hO; rfl) (fun hc5 h => ?_) (fun hc5 h => ?_)
      · conv => cbv
        refine br_t hO hc5 ?_
        conv => cbv
        refine br_t hO hc5 ?_
        conv => cbv
        refine br_t hO hc5 ?_
        conv => cbv
        refine br_t hO hc5 ?_
        conv => cbv
        refine br_t hO hc5 ?_
        conv => cbv
        refine br_t hO hc5 ?_
        conv => cbv
        refine br_t hO hc5 ?_
        conv => cbv
        exact hL_2 _ _ ⟨true, ⟨(by (conv => lhs; cbv) <;> (subst hO; rfl)), (by (conv => lhs; cbv) <;> (subst hO; rfl))⟩, h⟩
      · conv => cbv
        refine br_f hO hc5 ?_
        conv => cbv
        refine br_f hO hc5 ?_
        conv => cbv
        refine br_f hO hc5 ?_
        conv => cbv
        refine br_f hO hc5 ?_
        conv => cbv
        refine br_f hO hc5 ?_
        conv => cbv
        refine br_f hO hc5 ?_
        conv => cbv
        refine br_f hO hc5 ?_
        conv => cbv
        exact hL_2 _ _ ⟨(cmpStd .neq ((x2.length : Nat) : Int) ((x5.length : Nat) : Int)), ⟨(by (conv => lhs; cbv) <;> (subst hO; rfl)), (by (conv => lhs; cbv) <;> (subst hO; rfl))⟩, h⟩
  · rintro tm m ⟨j1, hs, h⟩
    unfold p37_2 at h
    obtain ⟨rfl, rfl⟩ := hs
    conv => cbv
    refine br_h hO h (by subst hO; rfl) (fun hc1 h => ?_) (fun hc1 h => ?_)
    · conv => cbv
      rw [hQ]
      exact ⟨false, _, _, ⟨(by subst hO; rfl), (by subst hO; rfl)⟩, h⟩
    · conv => cbv
      refine join_all hO ?_
      conv => cbv
      refine loop_of hO tiA [2, 3, 5] [3000, 4000] [] (fun (n : Nat) tm m => ∃ (z2 : Int), ((tm = frame 0 46 [(2, .p 3000 0 0), (3, .p 4000 0 0), (5, .c (.v (.int .i64 z2)))] ∧ m = ⟨[(3000, .blk 0 [.c (.v (.int .i64 x0)), .c (.v (.int .i64 x1)), .c (.sl 3 x2 none)]), (4000, .blk 0 [.c (.v (.int .i64 x3)), .c (.v (.int .i64 x4)), .c (.sl 3 x5 none)])], 1⟩)) ∧ p37_1L False fu (p37 False fu) K0 x2 x5 n z2) (fun n => n) fu ⟨0, ⟨(by (conv => lhs; cbv) <;> (subst hO; rfl)), (by (conv => lhs; cbv) <;> (subst hO; rfl))⟩, h⟩ ?_
      rintro n1 tm m L ⟨z2, hs, h⟩ hLn1
      cases n1 with
      | zero => rw [p37_1L] at h; exact h.elim
      | succ n1 =>
        rw [p37_1L] at h
        unfold p37_1 at h
        obtain ⟨rfl, rfl⟩ := hs
        conv => cbv
        refine br_h hO h (by subst hO; rfl) (fun hc2 h => ?_) (fun hc2 h => ?_)
        · conv => cbv
          refine join_all hO ?_
          conv => cbv
          refine drawn_of hO tiA [[], []] [(0, true, false), (1, true, false), (2, true, false), (3, true, false), (4, true, false), (5, true, false), (6, true, false), (7, true, false), (8, true, false), (9, true, false), (10, false, true), (11, true, true)] (by kernel_rfl) ?_
          conv => cbv
          refine and_h h (fun g => (by subst hO; exact g)) (fun h => ?_)
          refine and_h h (fun g => (by subst hO; exact g)) (fun h => ?_)
          obtain ⟨c3, c4, c5, hr, h⟩ := rw_i64_i64_l3_inv h
          refine elem_of hO _ (by subst hO; exact hr) ?_
          clear hr
          conv => cbv
          refine and_h h (fun g => (by subst hO; exact g)) (fun h => ?_)
          refine and_h h (fun g => (by subst hO; exact g)) (fun h => ?_)
          obtain ⟨c6, c7, c8, hr, h⟩ := rw_i64_i64_l3_inv h
          refine elem_of hO _ (by subst hO; exact hr) ?_
          clear hr
          conv => cbv
          refine call_h hO [.shut, .shut] (ih_p37 O.len hN h) ?_
          intro os Q hos hQ
          conv => cbv
          refine ⟨(by (rw [hos]) <;> (subst hO; rfl)), ?_⟩
          intro r bs hq
          rw [hQ] at hq
          clear hos hQ h
          obtain ⟨y9, _, _, ⟨rfl, rfl⟩, h⟩ := hq
          conv => cbv
          refine join_all hO ?_
          conv => cbv
          refine br_h hO h (by subst hO; rfl) (fun hc3 h => ?_) (fun hc3 h => ?_)
          · conv => cbv
            rw [hQ]
            exact ⟨false, _, _, ⟨(by subst hO; rfl), (by subst hO; rfl)⟩, h⟩
          · conv => cbv
            refine join_all hO ?_
            conv => cbv
            exact hLn1 n1 _ _ (Nat.lt_succ_self n1) ⟨binStd .add .i64 z2 1, ⟨(by (conv => lhs; cbv) <;> (subst hO; rfl)), (by (conv => lhs; cbv) <;> (subst hO; rfl))⟩, h⟩
        · conv => cbv
          rw [hQ]
          exact ⟨true, _, _, ⟨(by subst hO; rfl), (by subst hO; rfl)⟩, h⟩
theorem dd_p37 (fu : Nat) : D_p37 fu := by
  induction fu with
  | zero => unfold D_p37; intros; rename_i h; rw [p37] at h; exact h.elim
  | succ n ih =>
    exact (by unfold D_p37; intro K0 L hN x0 x1 x2 x3 x4 x5 h; exact b_p37 n ih L hN (by rw [p37] at h; exact h))
theorem d_p37 (fu : Nat) {K0 : Bool → Prop} (L : EL → Nat) (hL : L = List.length) {x0 : Int} {x1 : Int} {x2 : EL} {x3 : Int} {x4 : Int} {x5 : EL} (h : p37 False fu K0 x0 x1 x2 x3 x4 x5) : Den Try.prog G0 37 [.agg [.c (.v (.int .i64 x0)), .c (.v (.int .i64 x1)), .c (.sl 3 x2 none)], .agg [.c (.v (.int .i64 x3)), .c (.v (.int .i64 x4)), .c (.sl 3 x5 none)]] (fun r bs => (∃ (y0 : Bool) (o0 : OV) (o1 : OV), (r = .c (.v (.bool y0)) ∧ bs = [o0, o1]) ∧ K0 y0)) := dd_p37 fu L hL h
end Go.Proofs.Ythncmjlcmlmnmaa

namespace Go.Proofs.Ythncmjlcmlmnmaa
open Go V
set_option maxRecDepth 100000
set_option maxHeartbeats 4000000
def p19_1 {ρ : Type} (fail : ρ) (fu : Nat) (s_p19 : (Bool → ρ) → Int → Int → ByteArray → EL → EL → Int → Int → ByteArray → EL → EL → ρ) (K0 : Bool → ρ) (rec2 : Int → ρ) (x4 : EL) (x9 : EL) (z10 : Int) : ρ :=
  bif (cmpStd .lss z10 ((x4.length : Nat) : Int)) then (gd ((0 : Int) ≤ z10) fail (gd ((z10 : Int) < (x4.length : Nat)) fail (rw_i64_i64_s_l3_l5 fail (List.getD x4 ((z10 : Int).toNat) []) (fun c11 c12 c13 c14 c15 => gd ((0 : Int) ≤ z10) fail (gd ((z10 : Int) < (x9.length : Nat)) fail (rw_i64_i64_s_l3_l5 fail (List.getD x9 ((z10 : Int).toNat) []) (fun c16 c17 c18 c19 c20 => s_p19 (fun y21 => bif (!y21) then (K0 false) else (rec2 (binStd .add .i64 z10 1))) c11 c12 c13 c14 c15 c16 c17 c18 c19 c20))))))) else (K0 true)
def p19_1L {ρ : Type} (fail : ρ) (fu : Nat) (s_p19 : (Bool → ρ) → Int → Int → ByteArray → EL → EL → Int → Int → ByteArray → EL → EL → ρ) (K0 : Bool → ρ)  (x4 : EL) (x9 : EL) : Nat → Int → ρ
  | 0, _ => fail
  | n + 1, z10 => p19_1 fail fu s_p19 K0 (p19_1L fail fu s_p19 K0  x4 x9 n) x4 x9 z10
def p19_2 {ρ : Type} (fail : ρ) (fu : Nat) (s_p19 : (Bool → ρ) → Int → Int → ByteArray → EL → EL → Int → Int → ByteArray → EL → EL → ρ) (K0 : Bool → ρ) (rec1 : Int → ρ) (x3 : EL) (x4 : EL) (x8 : EL) (x9 : EL) (z2 : Int) : ρ :=
  bif (cmpStd .lss z2 ((x3.length : Nat) : Int)) then (gd ((0 : Int) ≤ z2) fail (gd ((z2 : Int) < (x3.length : Nat)) fail (rw_i64_i64_l3 fail (List.getD x3 ((z2 : Int).toNat) []) (fun c3 c4 c5 => gd ((0 : Int) ≤ z2) fail (gd ((z2 : Int) < (x8.length : Nat)) fail (rw_i64_i64_l3 fail (List.getD x8 ((z2 : Int).toNat) []) (fun c6 c7 c8 => p37 fail fu (fun y9 => bif (!y9) then (K0 false) else (rec1 (binStd .add .i64 z2 1))) c3 c4 c5 c6 c7 c8))))))) else (p19_1L fail fu s_p19 K0 x4 x9 fu 0)
def p19_2L {ρ : Type} (fail : ρ) (fu : Nat) (s_p19 : (Bool → ρ) → Int → Int → ByteArray → EL → EL → Int → Int → ByteArray → EL → EL → ρ) (K0 : Bool → ρ)  (x3 : EL) (x4 : EL) (x8 : EL) (x9 : EL) : Nat → Int → ρ
  | 0, _ => fail
  | n + 1, z2 => p19_2 fail fu s_p19 K0 (p19_2L fail fu s_p19 K0  x3 x4 x8 x9 n) x3 x4 x8 x9 z2
def p19_3 {ρ : Type} (fail : ρ) (fu : Nat) (s_p19 : (Bool → ρ) → Int → Int → ByteArray → EL → EL → Int → Int → ByteArray → EL → EL → ρ) (K0 : Bool → ρ)  (x3 : EL) (x4 : EL) (x8 : EL) (x9 : EL) (j1 : Bool) : ρ :=
  bif j1 then (K0 false) else (p19_2L fail fu s_p19 K0 x3 x4 x8 x9 fu 0)
/-- ref5.Equal -/
def p19_b {ρ : Type} (fail : ρ) (fu : Nat) (s_p19 : (Bool → ρ) → Int → Int → ByteArray → EL → EL → Int → Int → ByteArray → EL → EL → ρ) (K0 : Bool → ρ) (x0 : Int) (x1 : Int) (x2 : ByteArray) (x3 : EL) (x4 : EL) (x5 : Int) (x6 : Int) (x7 : ByteArray) (x8 : EL) (x9 : EL) : ρ :=
  bif (cmpStd .neq x0 x5) then (p19_3 fail fu s_p19 K0 x3 x4 x8 x9 true) else (bif (cmpStd .neq x1 x6) then (p19_3 fail fu s_p19 K0 x3 x4 x8 x9 true) else (bif (scmpStd .neq x2 x7) then (p19_3 fail fu s_p19 K0 x3 x4 x8 x9 true) else (bif (cmpStd .neq ((x3.length : Nat) : Int) ((x8.length : Nat) : Int)) then (p19_3 fail fu s_p19 K0 x3 x4 x8 x9 true) else (p19_3 fail fu s_p19 K0 x3 x4 x8 x9 (cmpStd .neq ((x4.length : Nat) : Int) ((x9.length : Nat) : Int))))))
def p19 {ρ : Type} (fail : ρ) : Nat → (Bool → ρ) → Int → Int → ByteArray → EL → EL → Int → Int → ByteArray → EL → EL → ρ
  | 0, _, _, _, _, _, _, _, _, _, _, _ => fail
  | n + 1, K0, x0, x1, x2, x3, x4, x5, x6, x7, x8, x9 => p19_b fail n (p19 fail n) K0 x0 x1 x2 x3 x4 x5 x6 x7 x8 x9
def D_p19 (fu : Nat) : Prop := ∀ {K0 : Bool → Prop} (L : EL → Nat) (_ : L = List.length) {x0 : Int} {x1 : Int} {x2 : ByteArray} {x3 : EL} {x4 : EL} {x5 : Int} {x6 : Int} {x7 : ByteArray} {x8 : EL} {x9 : EL} (_ : p19 False fu K0 x0 x1 x2 x3 x4 x5 x6 x7 x8 x9), Den Try.prog G0 19 [.agg [.c (.v (.int .i64 x0)), .c (.v (.int .i64 x1)), .c (.v (.string x2)), .c (.sl 3 x3 none), .c (.sl 5 x4 none)], .agg [.c (.v (.int .i64 x5)), .c (.v (.int .i64 x6)), .c (.v (.string x7)), .c (.sl 3 x8 none), .c (.sl 5 x9 none)]] (fun r bs => (∃ (y0 : Bool) (o0 : OV) (o1 : OV), (r = .c (.v (.bool y0)) ∧ bs = [o0, o1]) ∧ K0 y0))
theorem b_p19 (fu : Nat) (ih_p19 : D_p19 fu) {K0 : Bool → Prop} (L : EL → Nat) (hN : L = List.length) {x0 : Int} {x1 : Int} {x2 : ByteArray} {x3 : EL} {x4 : EL} {x5 : Int} {x6 : Int} {x7 : ByteArray} {x8 : EL} {x9 : EL} (h : p19_b False fu (p19 False fu) K0 x0 x1 x2 x3 x4 x5 x6 x7 x8 x9) : Den Try.prog G0 19 [.agg [.c (.v (.int .i64 x0)), .c (.v (.int .i64 x1)), .c (.v (.string x2)), .c (.sl 3 x3 none), .c (.sl 5 x4 none)], .agg [.c (.v (.int .i64 x5)), .c (.v (.int .i64 x6)), .c (.v (.string x7)), .c (.sl 3 x8 none), .c (.sl 5 x9 none)]] (fun r bs => (∃ (y0 : Bool) (o0 : OV) (o1 : OV), (r = .c (.v (.bool y0)) ∧ bs = [o0, o1]) ∧ K0 y0)) := by
  obtain ⟨O, hO⟩ : ∃ O, O = std 0 T G0 (Den Try.prog G0) := ⟨_, rfl⟩
  have hLO : L = O.len := by rw [hN, hO]; rfl
  subst hLO
  refine den_h hO tiA mixed tabOk (fn := Try.f19) (sh := true) (by kernel_rfl) rfl rfl rfl rfl ?_
  intro Q hQ
  unfold p19_b at h
  conv => cbv
  refine reg_join hO tiA [2, 3, 43] [3000, 4000] [] (fun tm m => ∃ (j1 : Bool), ((tm = frame 0 82 [(2, .p 3000 0 0), (3, .p 4000 0 0), (43, .c (.v (.bool j1)))] ∧ m = ⟨[(3000, .blk 0 [.c (.v (.int .i64 x0)), .c (.v (.int .i64 x1)), .c (.v (.string x2)), .c (.sl 3 x3 none), .c (.sl 5 x4 none)]), (4000, .blk 0 [.c (.v (.int .i64 x5)), .c (.v (.int .i64 x6)), .c (.v (.string x7)), .c (.sl 3 x8 none), .c (.sl 5 x9 none)])], 1⟩)) ∧ p19_3 False fu (p19 False fu) K0 x3 x4 x8 x9 j1) (fun L hL_3 => ?_) ?_
  · conv => cbv
    refine br_h hO h (by subst hO; rfl) (fun hc6 h => ?_) (fun hc6 h => ?_)
    · conv => cbv
      refine br_t hO hc6 ?_
      conv => cbv
      refine br_t hO hc6 ?_
      conv => cbv
      refine br_t hO hc6 ?_
      conv => cbv
      refine br_t hO hc6 ?_
      conv => cbv
      refine br_t hO hc6 ?_
      conv => cbv
      refine br_t hO rfl ?_
      conv => cbv
      refine br_t hO rfl ?_
      conv => cbv
      refine br_t hO rfl ?_
      conv => cbv
      refine br_t hO rfl ?_
      conv => cbv
      refine br_t hO rfl ?_
      conv => cbv
      refine br_t hO rfl ?_
      conv => cbv
      refine br_t hO rfl ?_
      conv => cbv
      refine br_t hO rfl ?_
      conv => cbv
      refine br_t hO rfl ?_
      conv => cbv
      refine br_t hO rfl ?_
      conv => cbv
      refine br_t hO rfl ?_
      conv => cbv
      refine br_t hO rfl ?_
      conv => cbv
      refine br_t hO rfl ?_
      conv => cbv
      refine br_t hO rfl ?_
      conv => cbv
      refine br_t hO rfl ?_
      conv => cbv
      refine br_t hO rfl ?_
      conv => cbv
      refine br_t hO rfl ?_
      conv => cbv
      refine br_t hO rfl ?_
      conv => cbv
      refine br_t hO rfl ?_
      conv => cbv
      refine br_t hO rfl ?_
      conv => cbv
      refine br_t hO rfl ?_
      conv => cbv
      refine br_t hO rfl ?_
      conv => cbv
      exact hL_3 _ _ ⟨true, ⟨(by (conv => lhs; cbv) <;> (subst hO; rfl)), (by (conv => lhs; cbv) <;> (subst hO; rfl))⟩, h⟩
    · conv => cbv
      refine br_f hO hc6 ?_
      conv => cbv
      refine br_f hO hc6 ?_
      conv => cbv
      refine br_f hO hc6 ?_
      conv => cbv
      refine br_f hO hc6 ?_
      conv => cbv
      refine br_f hO hc6 ?_
      conv => cbv
      refine br_h hO h (by subst hO; rfl) (fun hc7 h => ?_) (fun hc7 h => ?_)
      · conv => cbv
        refine br_t hO hc7 ?_
        conv => cbv
        refine br_t hO hc7 ?_
        conv => cbv
        refine br_t hO hc7 ?_
        conv => cbv
        refine br_t hO hc7 ?_
        conv => cbv
        refine br_t hO hc7 ?_
        conv => cbv
        refine br_t hO rfl ?_
        conv => cbv
        refine br_t hO rfl ?_
        conv => cbv
        refine br_t hO rfl ?_
        conv => cbv
        refine br_t hO rfl ?_
        conv => cbv
        refine br_t hO rfl ?_
        conv => cbv
        refine br_t hO rfl ?_
        conv => cbv
        refine br_t hO rfl ?_
        conv => cbv
        refine br_t hO rfl ?_
        conv => cbv
        refine br_t hO rfl ?_
        conv => cbv
        refine br_t hO rfl ?_
        conv => cbv
        refine br_t hO rfl ?_
        conv => cbv
        refine br_t hO rfl ?_
        conv => cbv
        refine br_t hO rfl ?_
        conv => cbv
        refine br_t hO rfl ?_
        conv => cbv
        refine br_t hO rfl ?_
        conv => cbv
        refine br_t hO rfl ?_
        conv => cbv
        exact hL_3 _ _ ⟨true, ⟨(by (conv => lhs; cbv) <;> (subst hO; rfl)), (by (conv => lhs; cbv) <;> (subst hO; rfl))⟩, h⟩
      · conv => cbv
        refine br_f hO hc7 ?_
        conv => cbv
        refine br_f hO hc7 ?_
        conv => cbv
        refine br_f hO hc7 ?_
        conv => cbv
        refine br_f hO hc7 ?_
        conv => cbv
        refine br_f hO hc7 ?_
        conv => cbv
        refine br_h hO h (by subst hO; rfl) (fun hc8 h => ?_) (fun hc8 h => ?_)
        · conv => cbv
          refine br_t hO hc8 ?_
          conv => cbv
          refine br_t hO hc8 ?_
          conv => cbv
          refine br_t hO hc8 ?_
          conv => cbv
          refine br_t hO hc8 ?_
          conv => cbv
          refine br_t hO hc8 ?_
          conv => cbv
          refine br_t hO hc8 ?_
          conv => cbv
          refine br_t hO hc8 ?_
          conv => cbv
          refine br_t hO rfl ?_
          conv => cbv
          refine br_t hO rfl ?_
          conv => cbv
          refine br_t hO rfl ?_
          conv => cbv
          refine br_t hO rfl ?_
          conv => cbv
          refine br_t hO rfl ?_
          conv => cbv
          refine br_t hO rfl ?_
          conv => cbv
          refine br_t hO rfl ?_
          conv => cbv
          refine br_t hO rfl ?_
          conv => cbv
          exact hL_3 _ _ ⟨true, ⟨(by (conv => lhs; cbv) <;> (subst hO; rfl)), (by (conv => lhs; cbv) <;> (subst hO; rfl))⟩, h⟩
        · conv => cbv
          refine br_f hO hc8 ?_
          conv => cbv
          refine br_f hO hc8 ?_
          conv => cbv
          refine br_f hO hc8 ?_
          conv => cbv
          refine br_f hO hc8 ?_
          conv => cbv
          refine br_f hO hc8 ?_
          conv => cbv
          refine br_f hO hc8 ?_
          conv => cbv
          refine br_f hO hc8 ?_
          conv => cbv
          refine br_h hO h (by subst hO; rfl) (fun hc9 h => ?_) (fun hc9 h => ?_)
          · conv => cbv
            refine br_t hO hc9 ?_
            conv => cbv
            refine br_t hO hc9 ?_
            conv => cbv
            refine br_t hO hc9 ?_
            conv => cbv
            refine br_t hO hc9 ?_
            conv => cbv
            refine br_t hO hc9 ?_
            conv => cbv
            refine br_t hO hc9 ?_
            conv => cbv
            refine br_t hO hc9 ?_
            conv => cbv
            exact hL_3 _ _ ⟨true, ⟨(by (conv => lhs; cbv) <;> (subst hO; rfl)), (by (conv => lhs; cbv) <;> (subst hO; rfl))⟩, h⟩
          · conv => cbv
            refine br_f hO hc9 ?_
            conv => cbv
            refine br_f hO hc9 ?_
            conv => cbv
            refine br_f hO hc9 ?_
            conv => cbv
            refine br_f hO hc9 ?_
            conv => cbv
            refine br_f hO hc9 ?_
            conv => cbv
            refine br_f hO hc9 ?_
            conv => cbv
            refine br_f hO hc9 ?_
            conv => cbv
            exact hL_3 _ _ ⟨(cmpStd .neq ((x4.length : Nat) : Int) ((x9.length : Nat) : Int)), ⟨(by (conv => lhs; cbv) <;> (subst hO; rfl)), (by (conv => lhs; cbv) <;> (subst hO; rfl))⟩, h⟩
  · rintro tm m ⟨j1, hs, h⟩
    unfold p19_3 at h
    obtain ⟨rfl, rfl⟩ := hs
    conv => cbv
    refine br_h hO h (by subst hO; rfl) (fun hc1 h => ?_) (fun hc1 h => ?_)
    · conv => cbv
      rw [hQ]
      exact ⟨false, _, _, ⟨(by subst hO; rfl), (by subst hO; rfl)⟩, h⟩
    · conv => cbv
      refine join_all hO ?_
      conv => cbv
      refine loop_of hO tiA [2, 3, 5] [3000, 4000] [] (fun (n : Nat) tm m => ∃ (z2 : Int), ((tm = frame 0 82 [(2, .p 3000 0 0), (3, .p 4000 0 0), (5, .c (.v (.int .i64 z2)))] ∧ m = ⟨[(3000, .blk 0 [.c (.v (.int .i64 x0)), .c (.v (.int .i64 x1)), .c (.v (.string x2)), .c (.sl 3 x3 none), .c (.sl 5 x4 none)]), (4000, .blk 0 [.c (.v (.int .i64 x5)), .c (.v (.int .i64 x6)), .c (.v (.string x7)), .c (.sl 3 x8 none), .c (.sl 5 x9 none)])], 1⟩)) ∧ p19_2L False fu (p19 False fu) K0 x3 x4 x8 x9 n z2) (fun n => n) fu ⟨0, ⟨(by (conv => lhs; cbv) <;> (subst hO; rfl)), (by (conv => lhs; cbv) <;> (subst hO; rfl))⟩, h⟩ ?_
      rintro n1 tm m L ⟨z2, hs, h⟩ hLn1
      cases n1 with
      | zero => rw [p19_2L] at h; exact h.elim
      | succ n1 =>
        rw [p19_2L] at h
        unfold p19_2 at h
        obtain ⟨rfl, rfl⟩ := hs
        conv => cbv
        refine br_h hO h (by subst hO; rfl) (fun hc2 h => ?_) (fun hc2 h => ?_)
        · conv => cbv
          refine join_all hO ?_
          conv => cbv
          refine drawn_of hO tiA [[], []] [(0, true, false), (1, true, false), (2, true, false), (3, true, false), (4, true, false), (5, true, false), (6, true, false), (7, true, false), (8, true, false), (9, true, false), (10, false, true), (11, true, true)] (by kernel_rfl) ?_
          conv => cbv
          refine and_h h (fun g => (by subst hO; exact g)) (fun h => ?_)
          refine and_h h (fun g => (by subst hO; exact g)) (fun h => ?_)
          obtain ⟨c3, c4, c5, hr, h⟩ := rw_i64_i64_l3_inv h
          refine elem_of hO _ (by subst hO; exact hr) ?_
          clear hr
          conv => cbv
          refine and_h h (fun g => (by subst hO; exact g)) (fun h => ?_)
          refine and_h h (fun g => (by subst hO; exact g)) (fun h => ?_)
          obtain ⟨c6, c7, c8, hr, h⟩ := rw_i64_i64_l3_inv h
          refine elem_of hO _ (by subst hO; exact hr) ?_
          clear hr
          conv => cbv
          refine call_h hO [.shut, .shut] (d_p37 fu O.len hN h) ?_
          intro os Q hos hQ
          conv => cbv
          refine ⟨(by (rw [hos]) <;> (subst hO; rfl)), ?_⟩
          intro r bs hq
          rw [hQ] at hq
          clear hos hQ h
          obtain ⟨y9, _, _, ⟨rfl, rfl⟩, h⟩ := hq
          conv => cbv
          refine join_all hO ?_
          conv => cbv
          refine br_h hO h (by subst hO; rfl) (fun hc3 h => ?_) (fun hc3 h => ?_)
          · conv => cbv
            rw [hQ]
            exact ⟨false, _, _, ⟨(by subst hO; rfl), (by subst hO; rfl)⟩, h⟩
          · conv => cbv
            refine join_all hO ?_
            conv => cbv
            exact hLn1 n1 _ _ (Nat.lt_succ_self n1) ⟨binStd .add .i64 z2 1, ⟨(by (conv => lhs; cbv) <;> (subst hO; rfl)), (by (conv => lhs; cbv) <;> (subst hO; rfl))⟩, h⟩
        · conv => cbv
          refine loop_of hO tiA [2, 3, 6] [3000, 4000] [] (fun (n : Nat) tm m => ∃ (z10 : Int), ((tm = frame 0 82 [(2, .p 3000 0 0), (3, .p 4000 0 0), (6, .c (.v (.int .i64 z10)))] ∧ m = ⟨[(3000, .blk 0 [.c (.v (.int .i64 x0)), .c (.v (.int .i64 x1)), .c (.v (.string x2)), .c (.sl 3 x3 none), .c (.sl 5 x4 none)]), (4000, .blk 0 [.c (.v (.int .i64 x5)), .c (.v (.int .i64 x6)), .c (.v (.string x7)), .c (.sl 3 x8 none), .c (.sl 5 x9 none)])], 1⟩)) ∧ p19_1L False fu (p19 False fu) K0 x4 x9 n z10) (fun n => n) fu ⟨0, ⟨(by (conv => lhs; cbv) <;> (subst hO; rfl)), (by (conv => lhs; cbv) <;> (subst hO; rfl))⟩, h⟩ ?_
          rintro n2 tm m L ⟨z10, hs, h⟩ hLn2
          cases n2 with
          | zero => rw [p19_1L] at h; exact h.elim
          | succ n2 =>
            rw [p19_1L] at h
            unfold p19_1 at h
            obtain ⟨rfl, rfl⟩ := hs
            conv => cbv
            refine br_h hO h (by subst hO; rfl) (fun hc4 h => ?_) (fun hc4 h => ?_)
            · conv => cbv
              refine join_all hO ?_
              conv => cbv
              refine drawn_of hO tiA [[], []] [(0, true, false), (1, true, false), (2, true, false), (3, true, false), (4, true, false), (5, true, false), (6, true, false), (7, true, false), (8, true, false), (9, true, false), (10, false, true), (11, true, true)] (by kernel_rfl) ?_
              conv => cbv
              refine and_h h (fun g => (by subst hO; exact g)) (fun h => ?_)
              refine and_h h (fun g => (by subst hO; exact g)) (fun h => ?_)
              obtain ⟨c11, c12, c13, c14, c15, hr, h⟩ := rw_i64_i64_s_l3_l5_inv h
              refine elem_of hO _ (by subst hO; exact hr) ?_
              clear hr
              conv => cbv
              refine and_h h (fun g => (by subst hO; exact g)) (fun h => ?_)
              refine and_h h (fun g => (by subst hO; exact g)) (fun h => ?_)
              obtain ⟨c16, c17, c18, c19, c20, hr, h⟩ := rw_i64_i64_s_l3_l5_inv h
              refine elem_of hO _ (by subst hO; exact hr) ?_
              clear hr
              conv => cbv
              refine call_h hO [.shut, .shut] (ih_p19 O.len hN h) ?_
              intro os Q hos hQ
              conv => cbv
              refine ⟨(by (rw [hos]) <;> (subst hO; rfl)), ?_⟩
              intro r bs hq
              rw [hQ] at hq
              clear hos hQ h
              obtain ⟨y21, _, _, ⟨rfl, rfl⟩, h⟩ := hq
              conv => cbv
              refine join_all hO ?_
              conv => cbv
              refine br_h hO h (by subst hO; rfl) (fun hc5 h => ?_) (fun hc5 h => ?_)
              · conv => cbv
                rw [hQ]
                exact ⟨false, _, _, ⟨(by subst hO; rfl), (by subst hO; rfl)⟩, h⟩
              · conv => cbv
                refine join_all hO ?_
                conv => cbv
                exact hLn2 n2 _ _ (Nat.lt_succ_self n2) ⟨binStd .add .i64 z10 1, ⟨(by (conv => lhs; cbv) <;> (subst hO; rfl)), (by (conv => lhs; cbv) <;> (subst hO; rfl))⟩, h⟩
            · conv => cbv
              rw [hQ]
              exact ⟨true, _, _, ⟨(by subst hO; rfl), (by subst hO; rfl)⟩, h⟩
theorem dd_p19 (fu : Nat) : D_p19 fu := by
  induction fu with
  | zero => unfold D_p19; intros; rename_i h; rw [p19] at h; exact h.elim
  | succ n ih =>
    exact (by unfold D_p19; intro K0 L hN x0 x1 x2 x3 x4 x5 x6 x7 x8 x9 h; exact b_p19 n ih L hN (by rw [p19] at h; exact h))
theorem d_p19 (fu : Nat) {K0 : Bool → Prop} (L : EL → Nat) (hL : L = List.length) {x0 : Int} {x1 : Int} {x2 : ByteArray} {x3 : EL} {x4 : EL} {x5 : Int} {x6 : Int} {x7 : ByteArray} {x8 : EL} {x9 : EL} (h : p19 False fu K0 x0 x1 x2 x3 x4 x5 x6 x7 x8 x9) : Den Try.prog G0 19 [.agg [.c (.v (.int .i64 x0)), .c (.v (.int .i64 x1)), .c (.v (.string x2)), .c (.sl 3 x3 none), .c (.sl 5 x4 none)], .agg [.c (.v (.int .i64 x5)), .c (.v (.int .i64 x6)), .c (.v (.string x7)), .c (.sl 3 x8 none), .c (.sl 5 x9 none)]] (fun r bs => (∃ (y0 : Bool) (o0 : OV) (o1 : OV), (r = .c (.v (.bool y0)) ∧ bs = [o0, o1]) ∧ K0 y0)) := dd_p19 fu L hL h
end Go.Proofs.Ythncmjlcmlmnmaa

namespace Go.Proofs.Ythncmjlcmlmnmaa
open Go V
set_option maxRecDepth 100000
set_option maxHeartbeats 2000000
theorem scmp_nil (s : ByteArray) : scmpStd .eql s ⟨#[]⟩ = decide (s.size = 0) := by
  show (s.toList == (⟨#[]⟩ : ByteArray).toList) = _
  rw [ByteArray.toList_eq, ByteArray.toList_eq, ← sz_data]
  cases s.data.toList <;> simp
theorem ba_nil {s : ByteArray} (h : s.size = 0) : s = ⟨#[]⟩ := by
  obtain ⟨d⟩ := s
  have : d = #[] := Array.size_eq_zero_iff.1 h
  rw [this]
/-- Is it the zero term? -/
def isZ (t : Tm) : Bool := decide (t.k = 0) && (decide (t.n = 0) && (decide (t.nm.size = 0) && (decide (t.ls.length = 0) && decide (t.args.length = 0))))
theorem isZ_iff (t : Tm) : isZ t = true ↔ t = tm0 := by
  obtain ⟨k, n, s, l, a⟩ := t
  constructor
  · intro h
    simp only [isZ, Tm.k, Tm.n, Tm.nm, Tm.ls, Tm.args, Bool.and_eq_true] at h
    obtain ⟨h1, h2, h3, h4, h5⟩ := h
    have g1 := of_decide_eq_true h1
    have g2 := of_decide_eq_true h2
    have g3 := ba_nil (of_decide_eq_true h3)
    have g4 := List.length_eq_zero_iff.1 (of_decide_eq_true h4)
    have g5 := List.length_eq_zero_iff.1 (of_decide_eq_true h5)
    rw [g1, g2, g3, g4, g5]; rfl
  · intro h; rw [h]; rfl
end Go.Proofs.Ythncmjlcmlmnmaa

namespace Go.Proofs.Ythncmjlcmlmnmaa
open Go V
set_option maxRecDepth 100000
set_option maxHeartbeats 2000000
/-- A reply. -/
structure Rp where
  err : Int
  hi : Int
  lo : Int
  fuel : Int
  cells : Int
  yes : Bool
  t : Tm
  params : Int
  ax : List ByteArray
def strRow (s : ByteArray) : List CV := [.v (.string s)]
abbrev RK14 (ρ : Type) := Int → Int → Int → Int → Int → Bool → Int → Int → ByteArray → EL → EL → Int → EL → Int → ρ
def rpOut {ρ : Type} : Option Rp → RK14 ρ → ρ
  | some r, K => K r.err r.hi r.lo r.fuel r.cells r.yes r.t.k r.t.n r.t.nm (Lv.rows r.t.ls) (Tm.rows r.t.args) r.params (r.ax.map strRow) 0
  | none, K => K 0 0 0 0 0 false 0 0 ⟨#[]⟩ nilE nilE 0 nilE 5
/-- p comes to x. -/
def Gd {ρ : Type} (p : RK14 ρ → ρ) (x : Option Rp) : Prop := ∀ K : RK14 ρ, p K = rpOut x K
def opt {α β : Type} (x : Except Int α) (f : α → Option β) : Option β := match x with | .ok a => f a | .error _ => none
section
variable {ρ : Type} (fail : ρ) (fu : Nat)
section
variable (y1 y4 y7 y10 y13 : Int) (j21 : Bool) (t : Tm)
variable (hfu : 70000 ≤ fu)
include hfu
end
variable (hfu : 70000 ≤ fu)
include hfu
section
variable (y1 y4 y7 y10 y13 : Int) (j21 : Bool)
end
/-- Stages, from the last one on. -/
def s7 (K0 : RK14 ρ) (y1 y4 y7 y10 y13 : Int) (y16 : Int) (B : EL) (e : Int) : ρ := p93 fail fu (fun y62 y63 y64 => bif (cmpStd .eql y62 1) then (p45_7 fail fu K0 y1 y4 y7 y10 y13 y63 y64 (cmpStd .eql y16 1) (cmpStd .eql y64 0)) else (p45_7 fail fu K0 y1 y4 y7 y10 y13 y63 y64 (cmpStd .eql y16 1) false)) B e 0 1
def s6 (K0 : RK14 ρ) (y1 y4 y7 y10 y13 : Int) (B : EL) (e : Int) : ρ := p93 fail fu (fun y16 y17 y18 => s7 fail fu K0 y1 y4 y7 y10 y13 y16 y17 y18) B e 0 1
def s5 (K0 : RK14 ρ) (y1 y4 y7 y10 : Int) (B : EL) (e : Int) : ρ := p91 fail fu (fun y13 y14 y15 => s6 fail fu K0 y1 y4 y7 y10 y13 y14 y15) B e
def s4 (K0 : RK14 ρ) (y1 y4 y7 : Int) (B : EL) (e : Int) : ρ := p91 fail fu (fun y10 y11 y12 => s5 fail fu K0 y1 y4 y7 y10 y11 y12) B e
def s3 (K0 : RK14 ρ) (y1 y4 : Int) (B : EL) (e : Int) : ρ := p92 fail fu (fun y7 y8 y9 => s4 fail fu K0 y1 y4 y7 y8 y9) B e
def s2 (K0 : RK14 ρ) (y1 : Int) (B : EL) (e : Int) : ρ := p92 fail fu (fun y4 y5 y6 => s3 fail fu K0 y1 y4 y5 y6) B e
section
variable (B : EL) (e : Int) (he : e ≠ 0)
include he
end
omit hfu in
/-- A step, and what follows. -/
theorem Gd.step {q : (Int → EL → Int → ρ) → ρ} {j : Int} {x : Except Int (Nat × List UInt8)} (h : KOut q j x) {c : RK14 ρ → Int → EL → Int → ρ} {f : Nat × List UInt8 → Option Rp} (h1 : ∀ v r, x = .ok (v, r) → Gd (fun K => c K (v : Nat) (encB r) 0) (f (v, r))) (h2 : ∀ B e, e ≠ 0 → Gd (fun K => c K j B e) none) : Gd (fun K => q (c K)) (opt x f) := by
  cases x with
  | error e =>
    obtain ⟨he, B, hB⟩ := h
    intro K
    exact (hB _).trans (h2 B e he K)
  | ok x =>
    obtain ⟨v, r⟩ := x
    intro K
    exact (h _).trans (h1 v r rfl K)
end
end Go.Proofs.Ythncmjlcmlmnmaa

namespace Go.Proofs.Ythncmjlcmlmnmaa
open Go V
set_option maxRecDepth 100000
set_option maxHeartbeats 4000000
def p136_1 {ρ : Type} (fail : ρ) (fu : Nat)  (K0 : Int → ρ)  (x0 : Int) (j2 : Bool) : ρ :=
  bif j2 then (K0 2) else (bif (cmpStd .eql x0 6) then (K0 3) else (K0 (-1)))
def p136_2 {ρ : Type} (fail : ρ) (fu : Nat)  (K0 : Int → ρ)  (x0 : Int) (j3 : Bool) : ρ :=
  p136_1 fail fu  K0 x0 j3
def p136_3 {ρ : Type} (fail : ρ) (fu : Nat)  (K0 : Int → ρ)  (x0 : Int) (j1 : Bool) : ρ :=
  bif j1 then (K0 0) else (bif (cmpStd .eql x0 3) then (p136_1 fail fu  K0 x0 (cmpStd .eql x0 3)) else (bif (cmpStd .eql x0 4) then (p136_2 fail fu  K0 x0 (cmpStd .eql x0 4)) else (p136_2 fail fu  K0 x0 (cmpStd .eql x0 5))))
def p136_4 {ρ : Type} (fail : ρ) (fu : Nat)  (K0 : Int → ρ)  (x0 : Int) (j4 : Bool) : ρ :=
  p136_3 fail fu  K0 x0 j4
/-- ref5.Args -/
def p136 {ρ : Type} (fail : ρ) (fu : Nat)  (K0 : Int → ρ) (x0 : Int) : ρ :=
  bif (cmpStd .eql x0 0) then (p136_3 fail fu  K0 x0 (cmpStd .eql x0 0)) else (bif (cmpStd .eql x0 1) then (p136_4 fail fu  K0 x0 (cmpStd .eql x0 1)) else (p136_4 fail fu  K0 x0 (cmpStd .eql x0 2)))
theorem d_p136 (fu : Nat)  {K0 : Int → Prop} (L : EL → Nat) (hN : L = List.length) {x0 : Int} (h : p136 False fu K0 x0) : Den Try.prog G0 136 [.c (.v (.int .i64 x0))] (fun r bs => (∃ (y0 : Int) (o0 : OV), (r = .c (.v (.int .i64 y0)) ∧ bs = [o0]) ∧ K0 y0)) := by
  obtain ⟨O, hO⟩ : ∃ O, O = std 0 T G0 (Den Try.prog G0) := ⟨_, rfl⟩
  have hLO : L = O.len := by rw [hN, hO]; rfl
  subst hLO
  refine den_h hO tiA mixed tabOk (fn := Try.f136) (sh := true) (by kernel_rfl) rfl rfl rfl rfl ?_
  intro Q hQ
  unfold p136 at h
  conv => cbv
  refine br_join_h hO tiA h (by subst hO; rfl) [3, 4] [] [] (fun tm m => ∃ (j1 : Bool), ((tm = frame 0 14 [(3, .c (.v (.int .i64 x0))), (4, .c (.v (.bool j1)))] ∧ m = ⟨[], 1⟩)) ∧ p136_3 False fu  K0 x0 j1) (fun hc6 h L hL_3 => ?_) (fun hc6 h L hL_3 => ?_) ?_
  · conv => cbv
    exact hL_3 _ _ ⟨(cmpStd .eql x0 0), ⟨(by (conv => lhs; cbv) <;> (subst hO; rfl)), (by (conv => lhs; cbv) <;> (subst hO; rfl))⟩, h⟩
  · conv => cbv
    refine br_join_h hO tiA h (by subst hO; rfl) [3, 4] [] [] (fun tm m => ∃ (j4 : Bool), ((tm = frame 0 14 [(3, .c (.v (.int .i64 x0))), (4, .c (.v (.bool j4)))] ∧ m = ⟨[], 1⟩)) ∧ p136_4 False fu  K0 x0 j4) (fun hc7 h L hL_4 => ?_) (fun hc7 h L hL_4 => ?_) ?_
    · conv => cbv
      exact hL_4 _ _ ⟨(cmpStd .eql x0 1), ⟨(by (conv => lhs; cbv) <;> (subst hO; rfl)), (by (conv => lhs; cbv) <;> (subst hO; rfl))⟩, h⟩
    · conv => cbv
      exact hL_4 _ _ ⟨(cmpStd .eql x0 2), ⟨(by (conv => lhs; cbv) <;> (subst hO; rfl)), (by (conv => lhs; cbv) <;> (subst hO; rfl))⟩, h⟩
    · rintro tm m ⟨j4, hs, h⟩
      unfold p136_4 at h
      obtain ⟨rfl, rfl⟩ := hs
      conv => cbv
      exact hL_3 _ _ ⟨j4, ⟨(by (conv => lhs; cbv) <;> (subst hO; rfl)), (by (conv => lhs; cbv) <;> (subst hO; rfl))⟩, h⟩
  · rintro tm m ⟨j1, hs, h⟩
    unfold p136_3 at h
    obtain ⟨rfl, rfl⟩ := hs
    conv => cbv
    refine br_h hO h (by subst hO; rfl) (fun hc1 h => ?_) (fun hc1 h => ?_)
    · conv => cbv
      rw [hQ]
      exact ⟨0, _, ⟨(by subst hO; rfl), (by subst hO; rfl)⟩, h⟩
    · conv => cbv
      refine br_join_h hO tiA h (by subst hO; rfl) [3, 8] [] [] (fun tm m => ∃ (j2 : Bool), ((tm = frame 0 14 [(3, .c (.v (.int .i64 x0))), (8, .c (.v (.bool j2)))] ∧ m = ⟨[], 1⟩)) ∧ p136_1 False fu  K0 x0 j2) (fun hc4 h L hL_1 => ?_) (fun hc4 h L hL_1 => ?_) ?_
      · conv => cbv
        exact hL_1 _ _ ⟨(cmpStd .eql x0 3), ⟨(by (conv => lhs; cbv) <;> (subst hO; rfl)), (by (conv => lhs; cbv) <;> (subst hO; rfl))⟩, h⟩
      · conv => cbv
        refine br_join_h hO tiA h (by subst hO; rfl) [3, 8] [] [] (fun tm m => ∃ (j3 : Bool), ((tm = frame 0 14 [(3, .c (.v (.int .i64 x0))), (8, .c (.v (.bool j3)))] ∧ m = ⟨[], 1⟩)) ∧ p136_2 False fu  K0 x0 j3) (fun hc5 h L hL_2 => ?_) (fun hc5 h L hL_2 => ?_) ?_
        · conv => cbv
          exact hL_2 _ _ ⟨(cmpStd .eql x0 4), ⟨(by (conv => lhs; cbv) <;> (subst hO; rfl)), (by (conv => lhs; cbv) <;> (subst hO; rfl))⟩, h⟩
        · conv => cbv
          exact hL_2 _ _ ⟨(cmpStd .eql x0 5), ⟨(by (conv => lhs; cbv) <;> (subst hO; rfl)), (by (conv => lhs; cbv) <;> (subst hO; rfl))⟩, h⟩
        · rintro tm m ⟨j3, hs, h⟩
          unfold p136_2 at h
          obtain ⟨rfl, rfl⟩ := hs
          conv => cbv
          exact hL_1 _ _ ⟨j3, ⟨(by (conv => lhs; cbv) <;> (subst hO; rfl)), (by (conv => lhs; cbv) <;> (subst hO; rfl))⟩, h⟩
      · rintro tm m ⟨j2, hs, h⟩
        unfold p136_1 at h
        obtain ⟨rfl, rfl⟩ := hs
        conv => cbv
        refine br_h hO h (by subst hO; rfl) (fun hc2 h => ?_) (fun hc2 h => ?_)
        · conv => cbv
          rw [hQ]
          exact ⟨2, _, ⟨(by subst hO; rfl), (by subst hO; rfl)⟩, h⟩
        · conv => cbv
          refine br_h hO h (by subst hO; rfl) (fun hc3 h => ?_) (fun hc3 h => ?_)
          · conv => cbv
            rw [hQ]
            exact ⟨3, _, ⟨(by subst hO; rfl), (by subst hO; rfl)⟩, h⟩
          · conv => cbv
            refine join_all hO ?_
            conv => cbv
            refine join_all hO ?_
            conv => cbv
            refine join_all hO ?_
            conv => cbv
            rw [hQ]
            exact ⟨(-1), _, ⟨(by subst hO; rfl), (by subst hO; rfl)⟩, h⟩
end Go.Proofs.Ythncmjlcmlmnmaa

namespace Go.Proofs.Ythncmjlcmlmnmaa
open Go V
set_option maxRecDepth 100000
set_option maxHeartbeats 2000000
def nkN (k : Nat) : Nat := if k ≤ 2 then 0 else tmN k
theorem rargs_eq {ρ : Type} (fail : ρ) (fu : Nat) (K : Int → ρ) (k : Nat) (h : k ≤ 6) : p136 fail fu K ((k : Nat) : Int) = K ((nkN k : Nat) : Int) := by
  have : k = 0 ∨ k = 1 ∨ k = 2 ∨ k = 3 ∨ k = 4 ∨ k = 5 ∨ k = 6 := by omega
  rcases this with rfl | rfl | rfl | rfl | rfl | rfl | rfl <;> rfl
mutual
/-- Has each part its levels? -/
def Tm.lvOk : Tm → Prop
  | .mk k _ _ l a => (k = 1 → l.length = 1) ∧ (k ≠ 1 → k ≠ 2 → l = []) ∧ Tm.lvOks a
def Tm.lvOks : List Tm → Prop
  | [] => True
  | a :: l => Tm.lvOk a ∧ Tm.lvOks l
end
theorem Tm.lvOks_mem : ∀ {l : List Tm} {a : Tm}, Tm.lvOks l → a ∈ l → a.lvOk
  | b :: l, a, h, ha => by
    rcases List.mem_cons.1 ha with rfl | ha
    · exact h.1
    · exact Tm.lvOks_mem h.2 ha
theorem scmp_nrefl (s : ByteArray) : scmpStd .neq s s = false := by simp [scmpStd]
theorem nscmp_nil (s : ByteArray) : scmpStd .neq s ⟨#[]⟩ = !decide (s.size = 0) := by
  rw [← scmp_nil]; rfl
/-- Held against the zero term. -/
theorem rterm_isZ0 {ρ : Type} (fail : ρ) (fu : Nat) (hf : 20 ≤ fu) (K : Bool → ρ) (k n : Int) (s : ByteArray) (l a : EL) : p19 fail fu K k n s l a 0 0 ⟨#[]⟩ nilE nilE = K (decide (k = 0) && (decide (n = 0) && (decide (s.size = 0) && (decide (l.length = 0) && decide (a.length = 0))))) := by
  obtain ⟨m, rfl⟩ : ∃ m, fu = m + 1 := ⟨fu - 1, by omega⟩
  rw [p19, p19_b, nscmp_nil]
  by_cases c1 : k = 0
  · rw [neqF c1, cond_false, decide_eq_true c1, Bool.true_and]
    by_cases c2 : n = 0
    · rw [neqF c2, cond_false, decide_eq_true c2, Bool.true_and]
      by_cases c3 : s.size = 0
      · rw [decide_eq_true c3, Bool.not_true, cond_false, Bool.true_and]
        by_cases c4 : l.length = 0
        · have hl := List.length_eq_zero_iff.1 c4
          subst hl
          rw [neqF rfl, cond_false, decide_eq_true c4, Bool.true_and]
          by_cases c5 : a.length = 0
          · have ha := List.length_eq_zero_iff.1 c5
            subst ha
            obtain ⟨q, rfl⟩ : ∃ q, m = q + 1 := ⟨m - 1, by omega⟩
            rw [neqF rfl, p19_3, cond_false]; rfl
          · rw [neqT (by simp only [List.length_nil]; omega), p19_3, cond_true, decide_eq_false c5]
        · rw [neqT (by simp only [List.length_nil]; omega), cond_true, p19_3, cond_true, decide_eq_false c4]; rfl
      · rw [decide_eq_false c3, Bool.not_false, cond_true, p19_3, cond_true]; rfl
    · rw [neqT c2, cond_true, p19_3, cond_true, decide_eq_false c2]; rfl
  · rw [neqT c1, cond_true, p19_3, cond_true, decide_eq_false c1]; rfl
theorem rterm_isZ {ρ : Type} (fail : ρ) (fu : Nat) (hf : 20 ≤ fu) (K : Bool → ρ) (t : Tm) : p19 fail fu K t.k t.n t.nm (Lv.rows t.ls) (Tm.rows t.args) 0 0 ⟨#[]⟩ nilE nilE = K (isZ t) := by
  rw [rterm_isZ0 fail fu hf, Lv.rows_len, Tm.rows_len]; rfl
end Go.Proofs.Ythncmjlcmlmnmaa

namespace Go.Proofs.Ythncmjlcmlmnmaa
open Go V
set_option maxRecDepth 100000
set_option maxHeartbeats 4000000
def p25_1 {ρ : Type} (fail : ρ) (fu : Nat)  (K0 : EL → Nat → Nat → ρ) (rec1 : EL → Nat → Nat → Int → ρ) (x0 : EL) (z1 : EL) (z2 : Nat) (z3 : Nat) (z4 : Int) : ρ :=
  bif (cmpStd .lss z4 ((z3 : Nat) : Int)) then (gd (z3 ≤ z1.length) fail (gd ((0 : Int) ≤ z4) fail (gd ((z4 : Int) < (z3 : Nat)) fail (gd (((z4 : Int).toNat) + 1 ≤ z1.length) fail (gd (0 + 1 ≤ (List.getD z1 ((z4 : Int).toNat) []).length) fail (rec1 (List.set z1 ((z4 : Int).toNat) (putAt (List.getD z1 ((z4 : Int).toNat) []) 0 [(CV.v (.int .u8 229))])) z2 z3 (binStd .add .i64 z4 1))))))) else (gd (z3 ≤ z1.length) fail (gd ((0 : Int) ≤ ((x0.length : Nat) : Int)) fail (gd ((((x0.length : Nat) : Int) : Int) ≤ (z3 : Nat) ∨ true = true ∧ (((x0.length : Nat) : Int) : Int) ≤ (z1.length : Nat)) fail (gd (((((x0.length : Nat) : Int) : Int).toNat) ≤ z1.length) fail (K0 z1 z2 ((((x0.length : Nat) : Int) : Int).toNat))))))
def p25_1L {ρ : Type} (fail : ρ) (fu : Nat)  (K0 : EL → Nat → Nat → ρ)  (x0 : EL) : Nat → EL → Nat → Nat → Int → ρ
  | 0, _, _, _, _ => fail
  | n + 1, z1, z2, z3, z4 => p25_1 fail fu  K0 (p25_1L fail fu  K0  x0 n) x0 z1 z2 z3 z4
/-- law0.Twin -/
def p25 {ρ : Type} (fail : ρ) (fu : Nat)  (K0 : EL → Nat → Nat → ρ) (x0 : EL) : ρ :=
  gd ((0 : Int) ≤ (binStd .add .i64 ((x0.length : Nat) : Int) 3)) fail (gd ((binStd .add .i64 ((x0.length : Nat) : Int) 3 : Int) ≤ (binStd .add .i64 ((x0.length : Nat) : Int) 3)) fail (gd ((binStd .add .i64 ((x0.length : Nat) : Int) 3 : Int) * (1 : Nat) ≤ 70368744177664) fail (gd (((binStd .add .i64 ((x0.length : Nat) : Int) 3 : Int).toNat) ≤ (List.replicate ((binStd .add .i64 ((x0.length : Nat) : Int) 3 : Int).toNat) [(CV.v (.int .u8 0))]).length) fail (p25_1L fail fu  K0 x0 fu (List.take (min x0.length ((binStd .add .i64 ((x0.length : Nat) : Int) 3 : Int).toNat)) x0 ++ List.drop (min x0.length ((binStd .add .i64 ((x0.length : Nat) : Int) 3 : Int).toNat)) (List.replicate ((binStd .add .i64 ((x0.length : Nat) : Int) 3 : Int).toNat) [(CV.v (.int .u8 0))])) ((binStd .add .i64 ((x0.length : Nat) : Int) 3 : Int).toNat) ((binStd .add .i64 ((x0.length : Nat) : Int) 3 : Int).toNat) ((x0.length : Nat) : Int)))))
theorem d_p25 (fu : Nat)  {K0 : EL → Nat → Nat → Prop} (L : EL → Nat) (hN : L = List.length) {x0 : EL} (h : p25 False fu K0 x0) : Den Try.prog G0 25 [.c (.sl 1 x0 none)] (fun r bs => (∃ (y0 : EL) (y1 : Nat) (y2 : Nat) (o0 : OV), (r = .arr 1 y0 (some y1) false y2 ∧ bs = [o0]) ∧ K0 y0 y1 y2)) := by
  obtain ⟨O, hO⟩ : ∃ O, O = std 0 T G0 (Den Try.prog G0) := ⟨_, rfl⟩
  have hLO : L = O.len := by rw [hN, hO]; rfl
  subst hLO
  refine den_h hO tiA mixed tabOk (fn := Try.f25) (sh := false) (by kernel_rfl) rfl rfl rfl rfl ?_
  intro Q hQ
  unfold p25 at h
  conv => cbv
  refine and_h h (fun g => (by subst hO; exact g)) (fun h => ?_)
  refine and_h h (fun g => (by subst hO; exact g)) (fun h => ?_)
  refine and_h h (fun g => (by subst hO; exact g)) (fun h => ?_)
  refine alt_l hO ?_
  conv => cbv
  refine and_h h (fun g => (by subst hO; exact g)) (fun h => ?_)
  refine loop_of hO tiA [0, 3, 4] [9000] [] (fun (n : Nat) tm m => ∃ (z1 : EL) (z2 : Nat) (z3 : Nat) (z4 : Int), ((tm = frame 0 27 [(0, .c (.sl 1 x0 none)), (3, .t 9000 0 z3), (4, .c (.v (.int .i64 z4)))] ∧ m = ⟨[(9000, .arr 0 1 z1 (some z2) false)], 1⟩)) ∧ p25_1L False fu  K0 x0 n z1 z2 z3 z4) (fun n => n) fu ⟨(List.take (min x0.length ((binStd .add .i64 ((x0.length : Nat) : Int) 3 : Int).toNat)) x0 ++ List.drop (min x0.length ((binStd .add .i64 ((x0.length : Nat) : Int) 3 : Int).toNat)) (List.replicate ((binStd .add .i64 ((x0.length : Nat) : Int) 3 : Int).toNat) [(CV.v (.int .u8 0))])), ((binStd .add .i64 ((x0.length : Nat) : Int) 3 : Int).toNat), ((binStd .add .i64 ((x0.length : Nat) : Int) 3 : Int).toNat), ((x0.length : Nat) : Int), ⟨(by (conv => lhs; cbv) <;> (subst hO; rfl)), (by (conv => lhs; cbv) <;> (subst hO; rfl))⟩, h⟩ ?_
  rintro n1 tm m L ⟨z1, z2, z3, z4, hs, h⟩ hLn1
  cases n1 with
  | zero => rw [p25_1L] at h; exact h.elim
  | succ n1 =>
    rw [p25_1L] at h
    unfold p25_1 at h
    obtain ⟨rfl, rfl⟩ := hs
    conv => cbv
    refine alt_l hO ?_
    conv => cbv
    refine br_h hO h (by subst hO; rfl) (fun hc1 h => ?_) (fun hc1 h => ?_)
    · conv => cbv
      refine join_all hO ?_
      conv => cbv
      refine alt_l hO ?_
      conv => cbv
      refine and_h h (fun g => (by subst hO; exact g)) (fun h => ?_)
      refine and_h h (fun g => (by subst hO; exact g)) (fun h => ?_)
      refine and_h h (fun g => (by subst hO; exact g)) (fun h => ?_)
      refine and_h h (fun g => (by subst hO; exact g)) (fun h => ?_)
      refine and_h h (fun g => (by subst hO; exact g)) (fun h => ?_)
      exact hLn1 n1 _ _ (Nat.lt_succ_self n1) ⟨List.set z1 ((z4 : Int).toNat) (putAt (List.getD z1 ((z4 : Int).toNat) []) 0 [(CV.v (.int .u8 229))]), z2, z3, binStd .add .i64 z4 1, ⟨(by (conv => lhs; cbv) <;> (subst hO; rfl)), (by (conv => lhs; cbv) <;> (subst hO; rfl))⟩, h⟩
    · conv => cbv
      refine alt_l hO ?_
      conv => cbv
      refine and_h h (fun g => (by subst hO; exact g)) (fun h => ?_)
      refine and_h h (fun g => (by subst hO; exact g)) (fun h => ?_)
      refine and_h h (fun g => (by subst hO; exact g)) (fun h => ?_)
      refine and_h h (fun g => (by subst hO; exact g)) (fun h => ?_)
      rw [hQ]
      exact ⟨z1, z2, ((((x0.length : Nat) : Int) : Int).toNat), _, ⟨(by subst hO; rfl), (by subst hO; rfl)⟩, h⟩
end Go.Proofs.Ythncmjlcmlmnmaa

namespace Go.Proofs.Ythncmjlcmlmnmaa
open Go V
set_option maxRecDepth 100000
set_option maxHeartbeats 4000000
def p31_1 {ρ : Type} (fail : ρ) (fu : Nat)  (K0 : Bool → ρ) (rec1 : Int → ρ) (x2 : EL) (j1 : EL) (z4 : Int) : ρ :=
  bif (cmpStd .lss z4 (binStd .add .i64 ((x2.length : Nat) : Int) 3)) then (gd ((0 : Int) ≤ z4) fail (gd ((z4 : Int) < (j1.length : Nat)) fail (rw_u8 fail (List.getD j1 ((z4 : Int).toNat) []) (fun c5 => bif (cmpStd .neq c5 229) then (K0 false) else (rec1 (binStd .add .i64 z4 1)))))) else (K0 true)
def p31_1L {ρ : Type} (fail : ρ) (fu : Nat)  (K0 : Bool → ρ)  (x2 : EL) (j1 : EL) : Nat → Int → ρ
  | 0, _ => fail
  | n + 1, z4 => p31_1 fail fu  K0 (p31_1L fail fu  K0  x2 j1 n) x2 j1 z4
def p31_2 {ρ : Type} (fail : ρ) (fu : Nat)  (K0 : Bool → ρ)  (x2 : EL) (j1 : EL) (j2 : EL) (j3 : Bool) : ρ :=
  bif j3 then (K0 false) else (p31_1L fail fu  K0 x2 j1 fu ((x2.length : Nat) : Int))
/-- law0.Kept -/
def p31 {ρ : Type} (fail : ρ) (fu : Nat)  (K0 : Bool → ρ) (x0 : EL) (x1 : EL) (x2 : EL) : ρ :=
  gd ((0 : Int) ≤ 0) fail (gd ((0 : Int) ≤ ((x0.length + x1.length : Nat) : Int)) fail (gd ((((x0.length + x1.length : Nat) : Int) : Int) ≤ (x0.length + x1.length : Nat)) fail (tobP fail x0 (fun s6 => tobP fail x2 (fun s7 => bif (scmpStd .neq s6 s7) then (p31_2 fail fu  K0 x2 (List.drop ((0 : Int).toNat) (List.take ((((x0.length + x1.length : Nat) : Int) : Int).toNat) (x0 ++ x1))) (List.drop ((((x0.length + x1.length : Nat) : Int) : Int).toNat) (x0 ++ x1)) true) else (p31_2 fail fu  K0 x2 (List.drop ((0 : Int).toNat) (List.take ((((x0.length + x1.length : Nat) : Int) : Int).toNat) (x0 ++ x1))) (List.drop ((((x0.length + x1.length : Nat) : Int) : Int).toNat) (x0 ++ x1)) (cmpStd .lss (((List.drop ((0 : Int).toNat) (List.take ((((x0.length + x1.length : Nat) : Int) : Int).toNat) (x0 ++ x1))).length : Nat) : Int) (binStd .add .i64 ((x2.length : Nat) : Int) 3))))))))
theorem d_p31 (fu : Nat)  {K0 : Bool → Prop} (L : EL → Nat) (hN : L = List.length) {x0 : EL} {x1 : EL} {x2 : EL} (h : p31 False fu K0 x0 x1 x2) : Den Try.prog G0 31 [.c (.sl 1 x0 (some x1)), .c (.sl 1 x2 none)] (fun r bs => (∃ (y0 : Bool) (o0 : OV) (o1 : OV), (r = .c (.v (.bool y0)) ∧ bs = [o0, o1]) ∧ K0 y0)) := by
  obtain ⟨O, hO⟩ : ∃ O, O = std 0 T G0 (Den Try.prog G0) := ⟨_, rfl⟩
  have hLO : L = O.len := by rw [hN, hO]; rfl
  subst hLO
  refine den_h hO tiA mixed tabOk (fn := Try.f31) (sh := true) (by kernel_rfl) rfl rfl rfl rfl ?_
  intro Q hQ
  unfold p31 at h
  conv => cbv
  refine and_h h (fun g => (by subst hO; exact g)) (fun h => ?_)
  refine and_h h (fun g => (by subst hO; exact g)) (fun h => ?_)
  refine and_h h (fun g => (by subst hO; exact g)) (fun h => ?_)
  refine reg_join hO tiA [1, 5, 23] [] [] (fun tm m => ∃ (j1 : EL) (j2 : EL) (j3 : Bool), ((tm = frame 0 38 [(1, .c (.sl 1 x2 none)), (5, .c (.sl 1 j1 (some j2))), (23, .c (.v (.bool j3)))] ∧ m = ⟨[], 1⟩)) ∧ p31_2 False fu  K0 x2 j1 j2 j3) (fun L hL_2 => ?_) ?_
  · conv => cbv
    refine tob_h hO h (by subst hO; rfl) (fun s6 h => ?_)
    conv => cbv
    refine tob_h hO h (by subst hO; rfl) (fun s7 h => ?_)
    conv => cbv
    refine br_h hO h (by subst hO; rfl) (fun hc4 h => ?_) (fun hc4 h => ?_)
    · conv => cbv
      refine br_t hO hc4 ?_
      conv => cbv
      refine br_t hO hc4 ?_
      conv => cbv
      refine br_t hO hc4 ?_
      conv => cbv
      refine br_t hO hc4 ?_
      conv => cbv
      refine br_t hO hc4 ?_
      conv => cbv
      refine br_t hO hc4 ?_
      conv => cbv
      exact hL_2 _ _ ⟨List.drop ((0 : Int).toNat) (List.take ((((x0.length + x1.length : Nat) : Int) : Int).toNat) (x0 ++ x1)), List.drop ((((x0.length + x1.length : Nat) : Int) : Int).toNat) (x0 ++ x1), true, ⟨(by (conv => lhs; cbv) <;> (subst hO; rfl)), (by (conv => lhs; cbv) <;> (subst hO; rfl))⟩, h⟩
    · conv => cbv
      refine br_f hO hc4 ?_
      conv => cbv
      refine br_f hO hc4 ?_
      conv => cbv
      refine br_f hO hc4 ?_
      conv => cbv
      refine br_f hO hc4 ?_
      conv => cbv
      refine br_f hO hc4 ?_
      conv => cbv
      refine br_f hO hc4 ?_
      conv => cbv
      exact hL_2 _ _ ⟨List.drop ((0 : Int).toNat) (List.take ((((x0.length + x1.length : Nat) : Int) : Int).toNat) (x0 ++ x1)), List.drop ((((x0.length + x1.length : Nat) : Int) : Int).toNat) (x0 ++ x1), (cmpStd .lss (((List.drop ((0 : Int).toNat) (List.take ((((x0.length + x1.length : Nat) : Int) : Int).toNat) (x0 ++ x1))).length : Nat) : Int) (binStd .add .i64 ((x2.length : Nat) : Int) 3)), ⟨(by (conv => lhs; cbv) <;> (subst hO; rfl)), (by (conv => lhs; cbv) <;> (subst hO; rfl))⟩, h⟩
  · rintro tm m ⟨j1, j2, j3, hs, h⟩
    unfold p31_2 at h
    obtain ⟨rfl, rfl⟩ := hs
    conv => cbv
    refine br_h hO h (by subst hO; rfl) (fun hc1 h => ?_) (fun hc1 h => ?_)
    · conv => cbv
      rw [hQ]
      exact ⟨false, _, _, ⟨(by subst hO; rfl), (by subst hO; rfl)⟩, h⟩
    · conv => cbv
      refine join_all hO ?_
      conv => cbv
      refine loop_of hO tiA [1, 5, 6] [] [] (fun (n : Nat) tm m => ∃ (z4 : Int), ((tm = frame 0 38 [(1, .c (.sl 1 x2 none)), (5, .c (.sl 1 j1 (some j2))), (6, .c (.v (.int .i64 z4)))] ∧ m = ⟨[], 1⟩)) ∧ p31_1L False fu  K0 x2 j1 n z4) (fun n => n) fu ⟨((x2.length : Nat) : Int), ⟨(by (conv => lhs; cbv) <;> (subst hO; rfl)), (by (conv => lhs; cbv) <;> (subst hO; rfl))⟩, h⟩ ?_
      rintro n1 tm m L ⟨z4, hs, h⟩ hLn1
      cases n1 with
      | zero => rw [p31_1L] at h; exact h.elim
      | succ n1 =>
        rw [p31_1L] at h
        unfold p31_1 at h
        obtain ⟨rfl, rfl⟩ := hs
        conv => cbv
        refine br_h hO h (by subst hO; rfl) (fun hc2 h => ?_) (fun hc2 h => ?_)
        · conv => cbv
          refine join_all hO ?_
          conv => cbv
          refine and_h h (fun g => (by subst hO; exact g)) (fun h => ?_)
          refine and_h h (fun g => (by subst hO; exact g)) (fun h => ?_)
          obtain ⟨c5, hr, h⟩ := rw_u8_inv h
          refine elem_of hO _ (by subst hO; exact hr) ?_
          clear hr
          conv => cbv
          refine br_h hO h (by subst hO; rfl) (fun hc3 h => ?_) (fun hc3 h => ?_)
          · conv => cbv
            rw [hQ]
            exact ⟨false, _, _, ⟨(by subst hO; rfl), (by subst hO; rfl)⟩, h⟩
          · conv => cbv
            refine join_all hO ?_
            conv => cbv
            exact hLn1 n1 _ _ (Nat.lt_succ_self n1) ⟨binStd .add .i64 z4 1, ⟨(by (conv => lhs; cbv) <;> (subst hO; rfl)), (by (conv => lhs; cbv) <;> (subst hO; rfl))⟩, h⟩
        · conv => cbv
          rw [hQ]
          exact ⟨true, _, _, ⟨(by subst hO; rfl), (by subst hO; rfl)⟩, h⟩
end Go.Proofs.Ythncmjlcmlmnmaa

namespace Go.Proofs.Ythncmjlcmlmnmaa
open Go V
set_option maxRecDepth 100000
set_option maxHeartbeats 2000000
theorem u8E_enc (b : List UInt8) : u8E (encB b) = true := by
  simp [u8E, encB, isU8]
theorem safeT_enc (b : List UInt8) : safeT (encB b) = true := by
  simp [safeT, encB, safeC]
theorem set_enc (b l : List UInt8) (k : Nat) (hk : k < l.length) : List.set (encB (b ++ l)) (b.length + k) (putAt (List.getD (encB (b ++ l)) (b.length + k) []) 0 [CV.v (.int .u8 229)]) = encB (b ++ l.set k 229) := by
  rw [encB_get (by rw [List.length_append]; omega)]
  show List.set (encB (b ++ l)) (b.length + k) [CV.v (.int .u8 229)] = _
  unfold encB
  rw [show ([CV.v (.int .u8 229)] : List CV) = (fun c : UInt8 => [CV.v (.int .u8 (c.toNat : Int))]) 229 from rfl, ← List.map_set]
  congr 1
  rw [List.set_append_right _ _ (by omega)]
  congr 2
  omega
/-- A row and three bytes more. -/
def twinB (b : List UInt8) : List UInt8 := b ++ [229, 229, 229]
theorem twin_w {ρ : Type} (fail : ρ) (fu : Nat) (hf : 10 ≤ fu) (K : EL → Nat → Nat → ρ) (b : List UInt8) (hb : b.length ≤ 1099511627776) : p25 fail fu K (encB b) = K (encB (twinB b)) (b.length + 3) b.length := by
  have step : ∀ (j k : Nat) (l : List UInt8), l.length = 3 → k < 3 → p25_1L fail fu K (encB b) (j + 1) (encB (b ++ l)) (b.length + 3) (b.length + 3) ((b.length + k : Nat) : Int) = p25_1L fail fu K (encB b) j (encB (b ++ l.set k 229)) (b.length + 3) (b.length + 3) ((b.length + (k + 1) : Nat) : Int) := fun j k l hl hk => by
    have hlen : (encB (b ++ l)).length = b.length + 3 := by rw [encB_length, List.length_append, hl]
    rw [p25_1L, p25_1, lssT (by omega), cond_true, gd_y (by omega), gd_y (by omega), gd_y (by omega), gd_y (by rw [hlen]; omega), gd_y (by rw [Int.toNat_natCast, encB_get (by rw [List.length_append]; omega)]; simp), addZ (by omega) (by omega), Int.toNat_natCast, set_enc b l k (by omega), show ((b.length + k : Nat) : Int) + 1 = ((b.length + (k + 1) : Nat) : Int) by omega]
  have e3 : binStd .add .i64 ((b.length : Nat) : Int) 3 = ((b.length + 3 : Nat) : Int) := by rw [addZ (by omega) (by omega)]; omega
  have hinit : (List.take (min b.length (b.length + 3)) (encB b) ++ List.drop (min b.length (b.length + 3)) (List.replicate (b.length + 3) [CV.v (.int .u8 0)])) = encB (b ++ [0, 0, 0]) := by
    rw [Nat.min_eq_left (by omega), List.take_of_length_le (by rw [encB_length]; exact Nat.le_refl _), List.drop_replicate, show b.length + 3 - b.length = 3 by omega, encB_append]; rfl
  obtain ⟨j, rfl⟩ : ∃ j, fu = j + 4 := ⟨fu - 4, by omega⟩
  rw [p25, encB_length, e3, gd_y (by omega), gd_y (by omega), gd_y (by omega), gd_y (by rw [List.length_replicate]; omega), Int.toNat_natCast, hinit]
  refine (step (j + 3) 0 [0, 0, 0] rfl (by omega)).trans ?_
  rw [step (j + 2) 1 _ rfl (by omega), step (j + 1) 2 _ rfl (by omega)]
  have hend : p25_1L fail (j + 4) K (encB b) (j + 1) (encB (b ++ (([0, 0, 0].set 0 229).set (0 + 1) 229).set 2 229)) (b.length + 3) (b.length + 3) ((b.length + (2 + 1) : Nat) : Int) = K (encB (twinB b)) (b.length + 3) b.length := by
    have hl2 : (encB (twinB b)).length = b.length + 3 := by rw [encB_length, twinB, List.length_append]; rfl
    show p25_1L fail (j + 4) K (encB b) (j + 1) (encB (twinB b)) (b.length + 3) (b.length + 3) ((b.length + (2 + 1) : Nat) : Int) = _
    rw [p25_1L, p25_1, lssF (by omega), cond_false, gd_y (by rw [hl2]; omega), encB_length, gd_y (by omega), gd_y (by left; omega), gd_y (by rw [hl2, Int.toNat_natCast]; omega), Int.toNat_natCast]
  exact hend
theorem twin_take (b : List UInt8) : List.take b.length (encB (twinB b)) = encB b := by
  rw [encB_take, twinB, List.take_left]
theorem twin_drop (b : List UInt8) : List.drop b.length (encB (twinB b)) = encB [229, 229, 229] := by
  rw [encB_drop, twinB, List.drop_left]
theorem twin_len (b : List UInt8) : (encB (twinB b)).length = b.length + 3 := by
  rw [encB_length, twinB, List.length_append]; rfl
theorem kept_w {ρ : Type} (fail : ρ) (fu : Nat) (hf : 10 ≤ fu) (K : Bool → ρ) (b : List UInt8) (hb : b.length ≤ 1099511627776) : p31 fail fu K (encB b) (encB [229, 229, 229]) (encB b) = K true := by
  have hal : encB b ++ encB [229, 229, 229] = encB (twinB b) := by rw [twinB, encB_append]
  have hlen : ((encB b).length + (encB [229, 229, 229]).length : Nat) = b.length + 3 := by rw [encB_length]; rfl
  have e3 : binStd .add .i64 ((b.length : Nat) : Int) 3 = ((b.length + 3 : Nat) : Int) := by rw [addZ (by omega) (by omega)]; omega
  have hj : List.drop (Int.toNat 0) (List.take (((b.length + 3 : Nat) : Int)).toNat (encB (twinB b))) = encB (twinB b) := by
    rw [Int.toNat_natCast, List.take_of_length_le (by rw [twin_len]; exact Nat.le_refl _)]; rfl
  have step : ∀ (j k : Nat), k < 3 → p31_1L fail fu K (encB b) (encB (twinB b)) (j + 1) ((b.length + k : Nat) : Int) = p31_1L fail fu K (encB b) (encB (twinB b)) j ((b.length + (k + 1) : Nat) : Int) := fun j k hk => by
    have hg : ∀ c : Int → ρ, rw_u8 fail (List.getD (encB (twinB b)) ((b.length + k : Nat) : Int).toNat []) c = c 229 := fun c => by
      have hlt : b.length + k < (twinB b).length := by rw [twinB, List.length_append]; show _ < _ + 3; omega
      have h9 : (twinB b)[b.length + k] = 229 := by
        have : k = 0 ∨ k = 1 ∨ k = 2 := by omega
        simp only [twinB]
        rw [List.getElem_append_right (by omega)]
        rcases this with rfl | rfl | rfl <;> simp
      rw [rw_byte fail _ _ hlt, h9]; rfl
    rw [p31_1L, p31_1, encB_length, e3, lssT (by omega), cond_true, gd_y (by omega), gd_y (by rw [twin_len]; omega), hg, neqF rfl, cond_false, addZ (by omega) (by omega), show ((b.length + k : Nat) : Int) + 1 = ((b.length + (k + 1) : Nat) : Int) by omega]
  obtain ⟨j, rfl⟩ : ∃ j, fu = j + 4 := ⟨fu - 4, by omega⟩
  rw [p31, hlen, gd_y (by omega), gd_y (by omega), gd_y (by omega), tobP_enc, tobP_enc, scmp_nrefl, cond_false, hal, hj, twin_len, encB_length, e3, lssF (by omega), p31_2, cond_false, encB_length]
  refine (step (j + 3) 0 (by omega)).trans ?_
  rw [step (j + 2) 1 (by omega), step (j + 1) 2 (by omega), p31_1L, p31_1, encB_length, e3, lssF (by omega), cond_false]
end Go.Proofs.Ythncmjlcmlmnmaa

namespace Go.Proofs.Ythncmjlcmlmnmaa
open Go V
set_option maxRecDepth 100000
set_option maxHeartbeats 2000000
/-- Is it such a level as may be, so deep? -/
def Lv.good : Nat → Lv → Prop
  | 0, _ => False
  | d + 1, .mk k n l => ((k = 4 ∧ 0 ≤ n ∧ n < 4 ∧ l = []) ∨ (0 ≤ k ∧ k ≤ 3 ∧ n = 0 ∧ l.length = lvN k.toNat)) ∧ ∀ a ∈ l, Lv.good d a
mutual
def Lv.parts : Lv → Nat
  | .mk _ _ l => 1 + Lv.partss l
def Lv.partss : List Lv → Nat
  | [] => 0
  | a :: l => Lv.parts a + Lv.partss l
end
/-- Is it such a term as may be, so deep? -/
def Tm.good : Nat → Tm → Prop
  | 0, _ => False
  | d + 1, .mk k n s l a =>
    ((k = 0 ∧ 0 ≤ n ∧ n ≤ 1073741824 ∧ s.size = 0 ∧ l = [] ∧ a = []) ∨ (k = 1 ∧ n = 0 ∧ s.size = 0 ∧ l.length = 1 ∧ a = []) ∨ (k = 2 ∧ n = 0 ∧ s.size ≤ 24 ∧ l.length ≤ 4 ∧ a = []) ∨ (3 ≤ k ∧ k ≤ 6 ∧ n = 0 ∧ s.size = 0 ∧ l = [] ∧ a.length = tmN k.toNat)) ∧
    (∀ b ∈ l, Lv.good 32 b ∧ b.parts ≤ 64) ∧ ∀ b ∈ a, Tm.good d b
mutual
def Tm.parts : Tm → Nat
  | .mk _ _ _ _ a => 1 + Tm.partss a
def Tm.partss : List Tm → Nat
  | [] => 0
  | a :: l => Tm.parts a + Tm.partss l
end
end Go.Proofs.Ythncmjlcmlmnmaa

