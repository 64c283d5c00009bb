/- Functions without memory, and that the Go functions are followed by them. Printed by gen.py. Conditions: none. -/
import Derived.Test.YthncmjlcmlmnmaaG
import Derived.Test.YthncmjlcmlmnmaaPR
import Derived.Test.YthncmjlcmlmnmaaRW14
import Derived.Test.YthncmjlcmlmnmaaRW8
import Derived.Test.YthncmjlcmlmnmaaRW9
import Derived.ProofKit
import Derived.WalkKit
import Derived.LoopTactic
import Derived.Lib.Hide
import Derived.KernelRfl
import Derived.Test.YthncmjlcmlmnmaaRW13
import Derived.Test.YthncmjlcmlmnmaaRW12
namespace Go.Proofs.Ythncmjlcmlmnmaa
open Go V
set_option maxRecDepth 100000
set_option maxHeartbeats 4000000
def p44_1 {ρ : Type} (fail : ρ) (fu : Nat)  (K0 : EL → ρ) (rec1 : EL → Int → ρ) (x13 : EL) (z11 : EL) (z12 : Int) : ρ :=
  bif (cmpStd .lss z12 ((x13.length : Nat) : Int)) then (gd ((0 : Int) ≤ z12) fail (gd ((z12 : Int) < (x13.length : Nat)) fail (rw_s fail (List.getD x13 ((z12 : Int).toNat) []) (fun c13 => gd (c13.size ≤ (encB c13.data.toList).length) fail (p90 fail fu (fun y14 => rec1 y14 (binStd .add .i64 z12 1)) z11 (List.take c13.size (encB c13.data.toList))))))) else (K0 z11)
def p44_1L {ρ : Type} (fail : ρ) (fu : Nat)  (K0 : EL → ρ)  (x13 : EL) : Nat → EL → Int → ρ
  | 0, _, _ => fail
  | n + 1, z11, z12 => p44_1 fail fu  K0 (p44_1L fail fu  K0  x13 n) x13 z11 z12
def p44_2 {ρ : Type} (fail : ρ) (fu : Nat)  (K0 : EL → ρ)  (x12 : Int) (x13 : EL) (j8 : EL) : ρ :=
  p88 fail fu (fun y9 => p88 fail fu (fun y10 => p44_1L fail fu  K0 x13 fu y10 0) y9 ((x13.length : Nat) : Int)) j8 x12
def p44_3 {ρ : Type} (fail : ρ) (fu : Nat)  (K0 : EL → ρ)  (x7 : Int) (x8 : Int) (x9 : ByteArray) (x10 : EL) (x11 : EL) (x12 : Int) (x13 : EL) (y4 : EL) (j5 : Int) : ρ :=
  p88 fail fu (fun y6 => p19 fail fu (fun y7 => bif y7 then (p88 fail fu (fun y15 => p44_2 fail fu  K0 x12 x13 y15) y6 0) else (p88 fail fu (fun y16 => p29 fail fu (fun y17 => p44_2 fail fu  K0 x12 x13 y17) y16 x7 x8 x9 x10 x11) y6 1)) x7 x8 x9 x10 x11 0 0 ⟨#[]⟩ nilE nilE) y4 j5
/-- ref25.Reply -/
def p44 {ρ : Type} (fail : ρ) (fu : Nat)  (K0 : EL → ρ) (x0 : EL) (x1 : Int) (x2 : Int) (x3 : Int) (x4 : Int) (x5 : Int) (x6 : Bool) (x7 : Int) (x8 : Int) (x9 : ByteArray) (x10 : EL) (x11 : EL) (x12 : Int) (x13 : EL) : ρ :=
  p88 fail fu (fun y1 => p89 fail fu (fun y2 => p88 fail fu (fun y3 => p88 fail fu (fun y4 => bif x6 then (p44_3 fail fu  K0 x7 x8 x9 x10 x11 x12 x13 y4 1) else (p44_3 fail fu  K0 x7 x8 x9 x10 x11 x12 x13 y4 0)) y3 x5) y2 x4) y1 x2 x3) x0 x1
theorem d_p44 (fu : Nat)  {K0 : EL → Prop} (L : EL → Nat) (hN : L = List.length) {x0 : EL} {x1 : Int} {x2 : Int} {x3 : Int} {x4 : Int} {x5 : Int} {x6 : Bool} {x7 : Int} {x8 : Int} {x9 : ByteArray} {x10 : EL} {x11 : EL} {x12 : Int} {x13 : EL} (h : p44 False fu K0 x0 x1 x2 x3 x4 x5 x6 x7 x8 x9 x10 x11 x12 x13) : Den Try.prog G0 44 [.c (.sl 1 x0 none), .agg [.c (.v (.int .i64 x1)), .c (.v (.int .u64 x2)), .c (.v (.int .u64 x3)), .c (.v (.int .i64 x4)), .c (.v (.int .i64 x5)), .c (.v (.bool x6)), .c (.v (.int .i64 x7)), .c (.v (.int .i64 x8)), .c (.v (.string x9)), .c (.sl 3 x10 none), .c (.sl 5 x11 none), .c (.v (.int .i64 x12)), .c (.sl 1 x13 none)]] (fun r bs => (∃ (y0 : EL) (o0 : OV) (o1 : OV), (r = .c (.sl 1 y0 none) ∧ bs = [o0, o1]) ∧ K0 y0)) := by
  obtain ⟨O, hO⟩ : ∃ O, O = std 0 T G0 (Den Try.prog G0) := ⟨_, rfl⟩
  have hLO : L = O.len := by rw [hN, hO]; rfl
  subst hLO
  refine den_h hO tiA mixed tabOk (fn := Try.f44) (sh := true) (by kernel_rfl) rfl rfl rfl rfl ?_
  intro Q hQ
  unfold p44 at h
  conv => cbv
  refine drawn_of hO tiA [[], [], [], [], []] [(0, true, false), (1, true, false), (2, true, false), (4, true, false), (5, true, false), (7, true, false), (8, true, false), (10, true, false), (11, true, false), (3, false, false), (6, false, false), (9, false, false), (12, false, true), (13, true, true)] (by kernel_rfl) ?_
  conv => cbv
  refine call_h hO [.shut, .shut] (d_p88 fu O.len hN h) ?_
  intro os Q hos hQ
  conv => cbv
  refine ⟨(by (rw [hos]) <;> (subst hO; rfl)), ?_⟩
  intro r bs hq
  rw [hQ] at hq
  clear hos hQ h
  obtain ⟨y1, _, _, ⟨rfl, rfl⟩, h⟩ := hq
  conv => cbv
  refine ⟨agree_of hO (Nat.le_of_ble_eq_true rfl) rfl, ?_⟩
  refine call_h hO [.shut, .shut] (d_p89 fu O.len hN h) ?_
  intro os Q hos hQ
  conv => cbv
  refine ⟨(by (rw [hos]) <;> (subst hO; rfl)), ?_⟩
  intro r bs hq
  rw [hQ] at hq
  clear hos hQ h
  obtain ⟨y2, _, _, ⟨rfl, rfl⟩, h⟩ := hq
  conv => cbv
  refine ⟨agree_of hO (Nat.le_of_ble_eq_true rfl) rfl, ?_⟩
  refine call_h hO [.shut, .shut] (d_p88 fu O.len hN h) ?_
  intro os Q hos hQ
  conv => cbv
  refine ⟨(by (rw [hos]) <;> (subst hO; rfl)), ?_⟩
  intro r bs hq
  rw [hQ] at hq
  clear hos hQ h
  obtain ⟨y3, _, _, ⟨rfl, rfl⟩, h⟩ := hq
  conv => cbv
  refine ⟨agree_of hO (Nat.le_of_ble_eq_true rfl) rfl, ?_⟩
  refine call_h hO [.shut, .shut] (d_p88 fu O.len hN h) ?_
  intro os Q hos hQ
  conv => cbv
  refine ⟨(by (rw [hos]) <;> (subst hO; rfl)), ?_⟩
  intro r bs hq
  rw [hQ] at hq
  clear hos hQ h
  obtain ⟨y4, _, _, ⟨rfl, rfl⟩, h⟩ := hq
  conv => cbv
  refine join_all hO ?_
  conv => cbv
  refine br_join_h hO tiA h (by subst hO; rfl) [0, 3, 5] [4000] [] (fun tm m => ∃ (j5 : Int), ((tm = frame 0 60 [(0, .c (.sl 1 y4 none)), (3, .p 4000 0 0), (5, .c (.v (.int .i64 j5)))] ∧ m = ⟨[(4000, .blk 0 [.c (.v (.int .i64 x1)), .c (.v (.int .u64 x2)), .c (.v (.int .u64 x3)), .c (.v (.int .i64 x4)), .c (.v (.int .i64 x5)), .c (.v (.bool x6)), .c (.v (.int .i64 x7)), .c (.v (.int .i64 x8)), .c (.v (.string x9)), .c (.sl 3 x10 none), .c (.sl 5 x11 none), .c (.v (.int .i64 x12)), .c (.sl 1 x13 none)])], 1⟩)) ∧ p44_3 False fu  K0 x7 x8 x9 x10 x11 x12 x13 y4 j5) (fun hc4 h L hL_3 => ?_) (fun hc4 h L hL_3 => ?_) ?_
  · conv => cbv
    exact hL_3 _ _ ⟨1, ⟨(by (conv => lhs; cbv) <;> (subst hO; rfl)), (by (conv => lhs; cbv) <;> (subst hO; rfl))⟩, h⟩
  · conv => cbv
    exact hL_3 _ _ ⟨0, ⟨(by (conv => lhs; cbv) <;> (subst hO; rfl)), (by (conv => lhs; cbv) <;> (subst hO; rfl))⟩, h⟩
  · rintro tm m ⟨j5, hs, h⟩
    unfold p44_3 at h
    obtain ⟨rfl, rfl⟩ := hs
    conv => cbv
    refine call_h hO [.shut, .shut] (d_p88 fu O.len hN h) ?_
    intro os Q hos hQ
    conv => cbv
    refine ⟨(by (rw [hos]) <;> (subst hO; rfl)), ?_⟩
    intro r bs hq
    rw [hQ] at hq
    clear hos hQ h
    obtain ⟨y6, _, _, ⟨rfl, rfl⟩, h⟩ := hq
    conv => cbv
    refine call_h hO [.shut, .shut] (d_p19 fu O.len hN h) ?_
    intro os Q hos hQ
    conv => cbv
    refine ⟨(by (rw [hos]) <;> (subst hO; rfl)), ?_⟩
    intro r bs hq
    rw [hQ] at hq
    clear hos hQ h
    obtain ⟨y7, _, _, ⟨rfl, rfl⟩, h⟩ := hq
    conv => cbv
    refine br_join_h hO tiA h (by subst hO; rfl) [0, 3] [4000] [] (fun tm m => ∃ (j8 : EL), ((tm = frame 0 60 [(0, .c (.sl 1 j8 none)), (3, .p 4000 0 0)] ∧ m = ⟨[(4000, .blk 0 [.c (.v (.int .i64 x1)), .c (.v (.int .u64 x2)), .c (.v (.int .u64 x3)), .c (.v (.int .i64 x4)), .c (.v (.int .i64 x5)), .c (.v (.bool x6)), .c (.v (.int .i64 x7)), .c (.v (.int .i64 x8)), .c (.v (.string x9)), .c (.sl 3 x10 none), .c (.sl 5 x11 none), .c (.v (.int .i64 x12)), .c (.sl 1 x13 none)])], 1⟩)) ∧ p44_2 False fu  K0 x12 x13 j8) (fun hc3 h L hL_2 => ?_) (fun hc3 h L hL_2 => ?_) ?_
    · conv => cbv
      refine call_h hO [.shut, .shut] (d_p88 fu O.len hN h) ?_
      intro os Q hos hQ
      conv => cbv
      refine ⟨(by (rw [hos]) <;> (subst hO; rfl)), ?_⟩
      intro r bs hq
      rw [hQ] at hq
      clear hos hQ h
      obtain ⟨y15, _, _, ⟨rfl, rfl⟩, h⟩ := hq
      conv => cbv
      exact hL_2 _ _ ⟨y15, ⟨(by (conv => lhs; cbv) <;> (subst hO; rfl)), (by (conv => lhs; cbv) <;> (subst hO; rfl))⟩, h⟩
    · conv => cbv
      refine drawn_of hO tiA [[], [], []] [(0, true, false), (2, true, false), (3, true, false), (1, false, false), (4, false, true), (5, true, true)] (by kernel_rfl) ?_
      conv => cbv
      refine call_h hO [.shut, .shut] (d_p88 fu O.len hN h) ?_
      intro os Q hos hQ
      conv => cbv
      refine ⟨(by (rw [hos]) <;> (subst hO; rfl)), ?_⟩
      intro r bs hq
      rw [hQ] at hq
      clear hos hQ h
      obtain ⟨y16, _, _, ⟨rfl, rfl⟩, h⟩ := hq
      conv => cbv
      refine ⟨agree_of hO (Nat.le_of_ble_eq_true rfl) rfl, ?_⟩
      refine call_h hO [.shut, .shut] (d_p29 fu O.len hN h) ?_
      intro os Q hos hQ
      conv => cbv
      refine ⟨(by (rw [hos]) <;> (subst hO; rfl)), ?_⟩
      intro r bs hq
      rw [hQ] at hq
      clear hos hQ h
      obtain ⟨y17, _, _, ⟨rfl, rfl⟩, h⟩ := hq
      conv => cbv
      refine join_all hO ?_
      conv => cbv
      exact hL_2 _ _ ⟨y17, ⟨(by (conv => lhs; cbv) <;> (subst hO; rfl)), (by (conv => lhs; cbv) <;> (subst hO; rfl))⟩, h⟩
    · rintro tm m ⟨j8, hs, h⟩
      unfold p44_2 at h
      obtain ⟨rfl, rfl⟩ := hs
      conv => cbv
      refine drawn_of hO tiA [[], [], []] [(0, true, false), (1, true, false), (2, true, false), (4, true, false), (5, true, false), (6, true, false), (3, false, false), (7, false, true), (8, true, true)] (by kernel_rfl) ?_
      conv => cbv
      refine call_h hO [.shut, .shut] (d_p88 fu O.len hN h) ?_
      intro os Q hos hQ
      conv => cbv
      refine ⟨(by (rw [hos]) <;> (subst hO; rfl)), ?_⟩
      intro r bs hq
      rw [hQ] at hq
      clear hos hQ h
      obtain ⟨y9, _, _, ⟨rfl, rfl⟩, h⟩ := hq
      conv => cbv
      refine ⟨agree_of hO (Nat.le_of_ble_eq_true rfl) rfl, ?_⟩
      refine call_h hO [.shut, .shut] (d_p88 fu O.len hN h) ?_
      intro os Q hos hQ
      conv => cbv
      refine ⟨(by (rw [hos]) <;> (subst hO; rfl)), ?_⟩
      intro r bs hq
      rw [hQ] at hq
      clear hos hQ h
      obtain ⟨y10, _, _, ⟨rfl, rfl⟩, h⟩ := hq
      conv => cbv
      refine join_all hO ?_
      conv => cbv
      refine loop_of hO tiA [0, 3, 6] [4000] [] (fun (n : Nat) tm m => ∃ (z11 : EL) (z12 : Int), ((tm = frame 0 60 [(0, .c (.sl 1 z11 none)), (3, .p 4000 0 0), (6, .c (.v (.int .i64 z12)))] ∧ m = ⟨[(4000, .blk 0 [.c (.v (.int .i64 x1)), .c (.v (.int .u64 x2)), .c (.v (.int .u64 x3)), .c (.v (.int .i64 x4)), .c (.v (.int .i64 x5)), .c (.v (.bool x6)), .c (.v (.int .i64 x7)), .c (.v (.int .i64 x8)), .c (.v (.string x9)), .c (.sl 3 x10 none), .c (.sl 5 x11 none), .c (.v (.int .i64 x12)), .c (.sl 1 x13 none)])], 1⟩)) ∧ p44_1L False fu  K0 x13 n z11 z12) (fun n => n) fu ⟨y10, 0, ⟨(by (conv => lhs; cbv) <;> (subst hO; rfl)), (by (conv => lhs; cbv) <;> (subst hO; rfl))⟩, h⟩ ?_
      rintro n1 tm m L ⟨z11, z12, hs, h⟩ hLn1
      cases n1 with
      | zero => rw [p44_1L] at h; exact h.elim
      | succ n1 =>
        rw [p44_1L] at h
        unfold p44_1 at h
        obtain ⟨rfl, rfl⟩ := hs
        conv => cbv
        refine br_h hO h (by subst hO; rfl) (fun hc1 h => ?_) (fun hc1 h => ?_)
        · conv => cbv
          refine join_all hO ?_
          conv => cbv
          refine and_h h (fun g => (by subst hO; exact g)) (fun h => ?_)
          refine and_h h (fun g => (by subst hO; exact g)) (fun h => ?_)
          obtain ⟨c13, hr, h⟩ := rw_s_inv h
          refine elem_of hO _ (by subst hO; exact hr) ?_
          clear hr
          conv => cbv
          obtain ⟨hc2, h⟩ := gd_inv h
          refine call_h hO [.shut, .shut] (d_p90 fu O.len hN h) ?_
          intro os Q hos hQ
          conv => cbv
          refine view_of hO (by subst hO; exact hc2) ?_
          conv => cbv
          refine ⟨(by (rw [hos]) <;> (subst hO; rfl)), ?_⟩
          intro r bs hq
          rw [hQ] at hq
          clear hos hQ h
          obtain ⟨y14, _, _, ⟨rfl, rfl⟩, h⟩ := hq
          conv => cbv
          exact hLn1 n1 _ _ (Nat.lt_succ_self n1) ⟨y14, binStd .add .i64 z12 1, ⟨(by (conv => lhs; cbv) <;> (subst hO; rfl)), (by (conv => lhs; cbv) <;> (subst hO; rfl))⟩, h⟩
        · conv => cbv
          rw [hQ]
          exact ⟨z11, _, _, ⟨(by subst hO; rfl), (by subst hO; rfl)⟩, h⟩
end Go.Proofs.Ythncmjlcmlmnmaa

namespace Go.Proofs.Ythncmjlcmlmnmaa
open Go V
set_option maxRecDepth 100000
set_option maxHeartbeats 2000000
theorem remU (v : Nat) (h : v < 2 ^ 64) : binStd .rem .u64 ((v : Nat) : Int) 128 = ((v % 128 : Nat) : Int) := by
  show ((v : Nat) : Int).tmod 128 = _
  rw [Int.tmod_eq_emod_of_nonneg (by omega)]; omega
theorem quoU (v : Nat) (h : v < 2 ^ 64) : binStd .quo .u64 ((v : Nat) : Int) 128 = ((v / 128 : Nat) : Int) := by
  show IntKind.u64.wrap (((v : Nat) : Int).tdiv 128) = _
  rw [Int.tdiv_eq_ediv_of_nonneg (by omega), show ((v : Nat) : Int) / 128 = ((v / 128 : Nat) : Int) by omega, u64_nat _ (by omega)]
theorem addU8 (n : Nat) (h : n < 128) : binStd .add .u8 (IntKind.u8.wrap ((n : Nat) : Int)) 128 = IntKind.u8.wrap ((n + 128 : Nat) : Int) := by
  show IntKind.u8.wrap (IntKind.u8.wrap ((n : Nat) : Int) + 128) = _
  have h1 : IntKind.u8.wrap ((n : Nat) : Int) = ((n : Nat) : Int) := u8_id (by omega)
  rw [h1, show ((n : Nat) : Int) + 128 = ((n + 128 : Nat) : Int) by omega]
theorem rvar_w {ρ : Type} (fail : ρ) (fu : Nat) (hf : 10 ≤ fu) (K : EL → ρ) (z : EL) (v : Nat) (hv : v < 2 ^ 64) (hz : z.length + 10 ≤ 35184372088832) : p113 fail fu K z (v : Nat) = K (z ++ encB (varB v)) := by
  have h9 : ∀ (j : Nat) (w : Nat) (y : EL), w < 2 ^ 64 → y.length + (varB w).length ≤ 35184372088832 → (varB w).length ≤ j → p113_1L fail fu K j (w : Nat) y = K (y ++ encB (varB w)) := by
    intro j
    induction j with
    | zero => intro w y _ _ h; have := varB_len w; omega
    | succ j ih =>
      intro w y hw hy hj
      rw [p113_1L, p113_1]
      by_cases h1 : w < 128
      · rw [varB_lt h1] at hy
        rw [geqF (by omega), cond_false, gd_y (by simp), gd_y (by simp at hy ⊢; omega), varB_lt h1, ← encB_u8]; rfl
      · rw [varB_ge (by omega), List.length_cons] at hy hj
        rw [geqT (by omega), cond_true, gd_y (by decide), gd_y (by simp), gd_y (by simp; omega), gd_y (by decide), remU w hw, addU8 _ (by omega), quoU w hw]
        have := ih (w / 128) (y ++ List.take 1 [[CV.v (.int .u8 (IntKind.u8.wrap ((w % 128 + 128 : Nat) : Int)))]]) (by omega) (by simp; omega) (by omega)
        rw [this, List.append_assoc]
        exact congrArg (fun q => K (y ++ q)) (varB_step (by omega))
  have h10 := varB_10 hv
  rw [p113, gd_y (by rfl), gd_y (by simp; omega), List.nil_append]
  exact h9 fu v z hv (by omega) (by omega)
theorem rnum_w {ρ : Type} (fail : ρ) (fu : Nat) (hf : 10 ≤ fu) (K : EL → ρ) (z : EL) (v : Int) (hz : z.length + 10 ≤ 35184372088832) : p72 fail fu K z v = K (z ++ encB (varB (uv v))) := by
  rw [p72, u64_uv, rvar_w fail fu hf _ z _ (uv_lt v) hz]
theorem rnum_w2 {ρ : Type} (fail : ρ) (fu : Nat) (hf : 10 ≤ fu) (K : EL → ρ) (z : EL) (v : Int) (hz : z.length + 10 ≤ 35184372088832) : p88 fail fu K z v = K (z ++ encB (varB (uv v))) := by
  rw [p88, u64_uv, rvar_w fail fu hf _ z _ (uv_lt v) hz]
theorem rText_w {ρ : Type} (fail : ρ) (fu : Nat) (hf : 10 ≤ fu) (K : EL → ρ) (s : ByteArray) (z : EL) (hs : s.size < 1099511627776) (hz : z.length + 10 + s.size ≤ 35184372088832) : p90 fail fu K z (List.take s.size (encB s.data.toList)) = K (z ++ encB (txB s)) := by
  have ht : List.take s.size (encB s.data.toList) = encB s.data.toList := List.take_of_length_le (by rw [encB_length, sz_data]; exact Nat.le_refl _)
  have h10 := varB_10 (show s.size < 2 ^ 64 by omega)
  rw [ht, p90, encB_length, sz_data, u64_nat _ (by omega), rvar_w fail fu hf _ z _ (by omega) (by omega), gd_y (by rw [List.length_append, encB_length]; omega), List.append_assoc, ← encB_append]
  rfl
theorem rtext_w {ρ : Type} (fail : ρ) (fu : Nat) (hf : 10 ≤ fu) (K : EL → ρ) (s : ByteArray) (z : EL) (hs : s.size < 1099511627776) (hz : z.length + 10 + s.size ≤ 35184372088832) : p73 fail fu K z s = K (z ++ encB (txB s)) := by
  rw [p73, gsz, rText_w fail fu hf _ s z hs hz]
-- ---------------------------------------------------------------- eight bytes
def zrow : List CV := [.v (.int .u8 0)]
theorem rEight_loop {ρ : Type} (fail : ρ) (fu : Nat) (K : EL → ρ) (x0 : EL) (hx : x0.length + 8 ≤ 35184372088832) : ∀ (m n v : Nat) (T : EL), m + T.length = 8 → m < n → v < 2 ^ 64 →
    p124_1L fail fu K x0 n (v : Nat) (List.replicate m zrow ++ T) 8 8 ((m : Int) - 1) = K (x0 ++ (encB (lowB m v) ++ T)) := by
  intro m
  induction m with
  | zero =>
    intro n v T hT hn hv
    obtain ⟨n, rfl⟩ : ∃ n', n = n' + 1 := ⟨n - 1, by omega⟩
    have ht : List.take 8 T = T := List.take_of_length_le (by omega)
    rw [p124_1L, p124_1, geqF (by omega), cond_false, List.replicate_zero, List.nil_append, gd_y (by rfl), gd_y (by simp; omega), gd_y (by omega), gd_y (by simp; omega), ht]
    rfl
  | succ m ih =>
    intro n v T hT hn hv
    obtain ⟨n, rfl⟩ : ∃ n', n = n' + 1 := ⟨n - 1, by omega⟩
    have hi : ((m + 1 : Nat) : Int) - 1 = ((m : Nat) : Int) := by omega
    have hlen : (List.replicate (m + 1) zrow ++ T).length = 8 := by simp; omega
    have hrep : List.replicate (m + 1) zrow ++ T = List.replicate m zrow ++ (zrow :: T) := by rw [List.replicate_succ', List.append_assoc]; rfl
    have hget : List.getD (List.replicate (m + 1) zrow ++ T) m [] = zrow := by
      rw [hrep, List.getD, List.getElem?_append_right (by simp)]; simp
    have hset : ∀ r, List.set (List.replicate (m + 1) zrow ++ T) m r = List.replicate m zrow ++ (r :: T) := fun r => by
      rw [hrep, List.set_append_right _ _ (by simp)]; simp
    have hm : binStd .rem .u64 ((v : Nat) : Int) 256 = ((v % 256 : Nat) : Int) := by
      show ((v : Nat) : Int).tmod 256 = _
      rw [Int.tmod_eq_emod_of_nonneg (by omega)]; omega
    have hq : binStd .quo .u64 ((v : Nat) : Int) 256 = ((v / 256 : Nat) : Int) := by
      show IntKind.u64.wrap (((v : Nat) : Int).tdiv 256) = _
      rw [Int.tdiv_eq_ediv_of_nonneg (by omega), show ((v : Nat) : Int) / 256 = ((v / 256 : Nat) : Int) by omega, u64_nat _ (by omega)]
    rw [hi, p124_1L, p124_1, geqT (by omega), cond_true, gd_y (by decide), gd_y (by omega), gd_y (by omega), gd_y (by omega), Int.toNat_natCast, gd_y (by omega), hget, gd_y (by decide), gd_y (by decide), hm, hq, hset, subZ (by omega) (by omega), u8_id (by omega)]
    have := ih n (v / 256) ([.v (.int .u8 ((v % 256 : Nat) : Int))] :: T) (by simp; omega) (by omega) (by omega)
    refine Eq.trans ?_ (this.trans ?_)
    · rfl
    · rw [lowB, encB_append, List.append_assoc]
      have he : encB [UInt8.ofNat (v % 256)] = [[.v (.int .u8 ((v % 256 : Nat) : Int))]] := by rw [encB_cons, u8_nat (by omega)]; rfl
      rw [he]; rfl
theorem rEight_w {ρ : Type} (fail : ρ) (fu : Nat) (hf : 10 ≤ fu) (K : EL → ρ) (x0 : EL) (hx : x0.length + 8 ≤ 35184372088832) (v : Nat) (hv : v < 2 ^ 64) : p124 fail fu K x0 (v : Nat) = K (x0 ++ encB (lowB 8 v)) := by
  rw [p124, gd_y (by decide), gd_y (by decide), gd_y (by decide)]
  have := rEight_loop fail fu K x0 hx 8 fu v [] (by simp) (by omega) hv
  rw [List.append_nil, List.append_nil] at this
  exact this
-- ---------------------------------------------------------------- levels and terms
theorem rlw_loop {ρ : Type} (fail : ρ) (fu : Nat) (K : EL → ρ) (s : (EL → ρ) → EL → Int → Int → EL → ρ) (l : List Lv) (B : Nat) (hs : ∀ a ∈ l, ∀ (K : EL → ρ) (z : EL), z.length + a.enc.length ≤ B → s K z a.k a.n (Lv.rows a.args) = K (z ++ encB a.enc)) :
    ∀ (r i n : Nat) (z : EL), l.length < 1099511627776 → i + r = l.length → r < n → z.length + (Lv.encs (l.drop i)).length ≤ B → p28_1L fail fu s K (Lv.rows l) n z ((i : Nat) : Int) = K (z ++ encB (Lv.encs (l.drop i))) := by
  intro r
  induction r with
  | zero =>
    intro i n z hl hi hn hz
    obtain ⟨n, rfl⟩ : ∃ m, n = m + 1 := ⟨n - 1, by omega⟩
    rw [p28_1L, p28_1, Lv.rows_len, lssF (by omega), cond_false, List.drop_eq_nil_of_le (by omega)]
    simp [Lv.encs]
  | succ r ih =>
    intro i n z hl hi hn hz
    obtain ⟨n, rfl⟩ : ∃ m, n = m + 1 := ⟨n - 1, by omega⟩
    have hlt : i < l.length := by omega
    have hd : l.drop i = l[i] :: l.drop (i + 1) := List.drop_eq_getElem_cons hlt
    rw [hd] at hz ⊢
    simp only [Lv.encs, List.length_append] at hz ⊢
    rw [p28_1L, p28_1, Lv.rows_len, lssT (by omega), cond_true, gd_y (by omega), gd_y (by omega), lv_row fail l i hlt, hs _ (List.getElem_mem hlt) _ z (by omega), addZ (by omega) (by omega), show ((i : Nat) : Int) + 1 = ((i + 1 : Nat) : Int) by omega]
    rw [ih (i + 1) n _ hl (by omega) (by omega) (by rw [List.length_append, encB_length]; omega), List.append_assoc, ← encB_append]
theorem rlevel_w {ρ : Type} (fail : ρ) : ∀ (N : Nat) (l : Lv), l.sz ≤ N → ∀ (fu : Nat) (K : EL → ρ) (z : EL), l.sz + 20 ≤ fu → l.sz < 1099511627776 → z.length + l.enc.length ≤ 35184372088000 → p28 fail fu K z l.k l.n (Lv.rows l.args) = K (z ++ encB l.enc) := by
  intro N
  induction N with
  | zero => intro l h; cases l; simp [Lv.sz] at h
  | succ N ih =>
    intro l hN fu K z hf hsz hz
    obtain ⟨k, n, l⟩ := l
    obtain ⟨m, rfl⟩ : ∃ m, fu = m + 1 := ⟨fu - 1, by omega⟩
    simp only [Lv.sz, Lv.enc, List.length_append] at hN hf hsz hz
    simp only [Lv.k, Lv.n, Lv.args, Lv.enc]
    have hl := Lv.szs_len l
    rw [p28, p28_b]
    generalize hs : p28 fail m = s
    have h10 := varB_10 (uv_lt k)
    have h11 := varB_10 (uv_lt n)
    have loop : ∀ y : EL, y.length + (Lv.encs l).length ≤ 35184372088000 → p28_2 fail m s K (Lv.rows l) y = K (y ++ encB (Lv.encs l)) := fun y hy => by
      rw [p28_2]
      have := rlw_loop fail m K s l 35184372088000 (fun a ha K z hz => by
        have h3 := Lv.szs_mem ha
        rw [← hs]; exact ih a (by omega) m K z (by omega) (by omega) hz) l.length 0 m y (by omega) (by omega) (by omega) (by simpa using hy)
      simpa using this
    rw [rnum_w fail m (by omega) _ z k (by omega)]
    by_cases h4 : k = 4
    · rw [if_pos h4] at hz ⊢
      rw [eqlT h4, cond_true, rnum_w fail m (by omega) _ _ n (by rw [List.length_append, encB_length]; omega), loop _ (by simp only [List.length_append, encB_length]; omega)]
      simp [List.append_assoc]
    · rw [if_neg h4] at hz ⊢
      rw [eqlF h4, cond_false, loop _ (by simp only [List.length_append, encB_length]; simp at hz; omega)]
      simp [List.append_assoc]
theorem rtw_loop {ρ : Type} (fail : ρ) (fu : Nat) (K : EL → ρ) (s : (EL → ρ) → EL → Int → Int → ByteArray → EL → EL → ρ) (l : List Tm) (B : Nat) (hs : ∀ a ∈ l, ∀ (K : EL → ρ) (z : EL), z.length + a.enc.length ≤ B → s K z a.k a.n a.nm (Lv.rows a.ls) (Tm.rows a.args) = K (z ++ encB a.enc)) :
    ∀ (r i n : Nat) (z : EL), l.length < 1099511627776 → i + r = l.length → r < n → z.length + (Tm.encs (l.drop i)).length ≤ B → p29_1L fail fu s K (Tm.rows l) n z ((i : Nat) : Int) = K (z ++ encB (Tm.encs (l.drop i))) := by
  intro r
  induction r with
  | zero =>
    intro i n z hl hi hn hz
    obtain ⟨n, rfl⟩ : ∃ m, n = m + 1 := ⟨n - 1, by omega⟩
    rw [p29_1L, p29_1, Tm.rows_len, lssF (by omega), cond_false, List.drop_eq_nil_of_le (by omega)]
    simp [Tm.encs]
  | succ r ih =>
    intro i n z hl hi hn hz
    obtain ⟨n, rfl⟩ : ∃ m, n = m + 1 := ⟨n - 1, by omega⟩
    have hlt : i < l.length := by omega
    have hd : l.drop i = l[i] :: l.drop (i + 1) := List.drop_eq_getElem_cons hlt
    rw [hd] at hz ⊢
    simp only [Tm.encs, List.length_append] at hz ⊢
    rw [p29_1L, p29_1, Tm.rows_len, lssT (by omega), cond_true, gd_y (by omega), gd_y (by omega), tm_row fail l i hlt, hs _ (List.getElem_mem hlt) _ z (by omega), addZ (by omega) (by omega), show ((i : Nat) : Int) + 1 = ((i + 1 : Nat) : Int) by omega]
    rw [ih (i + 1) n _ hl (by omega) (by omega) (by rw [List.length_append, encB_length]; omega), List.append_assoc, ← encB_append]
theorem rtw_levels {ρ : Type} (fail : ρ) (fu : Nat) (K : EL → ρ) (s : (EL → ρ) → EL → Int → Int → ByteArray → EL → EL → ρ) (l : List Lv) (A : EL) (hfu : Lv.szs l + 20 ≤ fu) (hsz : Lv.szs l < 1099511627776) :
    ∀ (r i n : Nat) (z : EL), i + r = l.length → r < n → z.length + (Lv.encs (l.drop i)).length ≤ 35184372088000 → p29_5L fail fu s K (Lv.rows l) A n z ((i : Nat) : Int) = p29_4 fail fu s K A (z ++ encB (Lv.encs (l.drop i))) := by
  have hl := Lv.szs_len l
  intro r
  induction r with
  | zero =>
    intro i n z hi hn hz
    obtain ⟨n, rfl⟩ : ∃ m, n = m + 1 := ⟨n - 1, by omega⟩
    rw [p29_5L, p29_5, Lv.rows_len, lssF (by omega), cond_false, List.drop_eq_nil_of_le (by omega)]
    simp [Lv.encs]
  | succ r ih =>
    intro i n z hi hn hz
    obtain ⟨n, rfl⟩ : ∃ m, n = m + 1 := ⟨n - 1, by omega⟩
    have hlt : i < l.length := by omega
    have hm := Lv.szs_mem (List.getElem_mem hlt)
    have hd : l.drop i = l[i] :: l.drop (i + 1) := List.drop_eq_getElem_cons hlt
    rw [hd] at hz ⊢
    simp only [Lv.encs, List.length_append] at hz ⊢
    rw [p29_5L, p29_5, Lv.rows_len, lssT (by omega), cond_true, gd_y (by omega), gd_y (by omega), lv_row fail l i hlt, rlevel_w fail _ l[i] (Nat.le_refl _) fu _ z (by omega) (by omega) (by omega), addZ (by omega) (by omega), show ((i : Nat) : Int) + 1 = ((i + 1 : Nat) : Int) by omega]
    rw [ih (i + 1) n _ (by omega) (by omega) (by rw [List.length_append, encB_length]; omega), List.append_assoc, ← encB_append]
theorem rterm_w {ρ : Type} (fail : ρ) : ∀ (N : Nat) (l : Tm), l.sz ≤ N → l.lvOk → ∀ (fu : Nat) (K : EL → ρ) (z : EL), l.sz + 30 ≤ fu → l.sz < 1099511627776 → z.length + l.enc.length ≤ 35184372087000 → p29 fail fu K z l.k l.n l.nm (Lv.rows l.ls) (Tm.rows l.args) = K (z ++ encB l.enc) := by
  intro N
  induction N with
  | zero => intro l h; cases l; simp [Tm.sz] at h
  | succ N ih =>
    intro t hN hok fu K z hf hsz hz
    obtain ⟨k, n, sn, l, a⟩ := t
    obtain ⟨m, rfl⟩ : ∃ m, fu = m + 1 := ⟨fu - 1, by omega⟩
    obtain ⟨ok1, ok2, ok3⟩ := hok
    simp only [Tm.sz, Tm.enc, List.length_append] at hN hf hsz hz
    simp only [Tm.k, Tm.n, Tm.nm, Tm.ls, Tm.args, Tm.enc]
    have hl := Lv.szs_len l
    have ha := Tm.szs_len a
    rw [p29, p29_b]
    generalize hs : p29 fail m = s
    have h10 := varB_10 (uv_lt k)
    have h11 := varB_10 (uv_lt n)
    have h12 := varB_10 (show l.length < 2 ^ 64 by omega)
    have loop : ∀ y : EL, y.length + (Tm.encs a).length ≤ 35184372087000 → p29_2 fail m s K (Tm.rows a) y = K (y ++ encB (Tm.encs a)) := fun y hy => by
      rw [p29_2]
      have := rtw_loop fail m K s a 35184372087000 (fun b hb K z hz => by
        have h3 := Tm.szs_mem hb
        rw [← hs]; exact ih b (by omega) (Tm.lvOks_mem ok3 hb) m K z (by omega) (by omega) hz) a.length 0 m y (by omega) (by omega) (by omega) (by simpa using hy)
      simpa using this
    rw [rnum_w fail m (by omega) _ z k (by omega)]
    by_cases h0 : k = 0
    · have hln := ok2 (by omega) (by omega)
      subst hln
      rw [if_pos h0] at hz ⊢
      rw [eqlT h0, cond_true, rnum_w fail m (by omega) _ _ n (by rw [List.length_append, encB_length]; omega), loop _ (by simp only [List.length_append, encB_length]; simp [Lv.encs] at hz; omega)]
      simp [List.append_assoc, Lv.encs]
    · rw [if_neg h0] at hz ⊢
      rw [eqlF h0, cond_false]
      by_cases h1 : k = 1
      · have hl1 := ok1 h1
        obtain ⟨b, rfl⟩ : ∃ b, l = [b] := by
          match l, hl1 with
          | [b], _ => exact ⟨b, rfl⟩
        rw [if_neg (by omega)] at hz ⊢
        simp only [Lv.encs, Lv.szs, List.length_append, List.length_nil] at hz hf hsz
        have hr : ∀ q : Int → Int → EL → ρ, rw_i64_i64_l3 fail (List.getD (Lv.rows [b]) ((0 : Int)).toNat []) q = q b.k b.n (Lv.rows b.args) := fun q => lv_row fail [b] 0 (by simp) q
        rw [eqlT h1, cond_true, gd_y (by decide), gd_y (by rw [Lv.rows_len]; simp), hr, rlevel_w fail _ b (Nat.le_refl _) m _ _ (by omega) (by omega) (by rw [List.length_append, encB_length]; omega), p29_3, loop _ (by simp only [List.length_append, encB_length]; omega)]
        simp [List.append_assoc, Lv.encs]
      · rw [eqlF h1, cond_false]
        by_cases h2 : k = 2
        · rw [if_pos h2] at hz ⊢
          simp only [txB, List.length_append, sz_data] at hz
          have hg : uv ((l.length : Nat) : Int) = l.length := uv_nat _ (by omega)
          have hlv := rtw_levels fail m K s l (Tm.rows a) (by omega) (by omega) l.length 0 m ((z ++ encB (varB (uv k))) ++ encB (txB sn) ++ encB (varB l.length)) (by omega) (by omega) (by simp only [txB, List.length_append, encB_length, sz_data, List.drop_zero]; omega)
          rw [show ((0 : Nat) : Int) = 0 from rfl] at hlv
          rw [eqlT h2, cond_true, rtext_w fail m (by omega) _ sn _ (by omega) (by rw [List.length_append, encB_length]; omega), Lv.rows_len, rnum_w fail m (by omega) _ _ _ (by simp only [txB, List.length_append, encB_length, sz_data]; omega), hg, hlv, List.drop_zero, p29_4, p29_3,
            loop _ (by simp only [txB, List.length_append, encB_length, sz_data]; omega)]
          simp [List.append_assoc]
        · have hln := ok2 h1 h2
          subst hln
          rw [if_neg h2] at hz ⊢
          rw [eqlF h2, cond_false, p29_4, p29_3, loop _ (by simp only [List.length_append, encB_length]; simp [Lv.encs] at hz; omega)]
          simp [List.append_assoc, Lv.encs]
end Go.Proofs.Ythncmjlcmlmnmaa

namespace Go.Proofs.Ythncmjlcmlmnmaa
open Go V
set_option maxRecDepth 100000
set_option maxHeartbeats 2000000
theorem rax_w {ρ : Type} (fail : ρ) (fu : Nat) (K : EL → ρ) (l : List ByteArray) (hfu : axSz l + 20 ≤ fu) (hsz : axSz l < 1099511627776) :
    ∀ (r i n : Nat) (z : EL), i + r = l.length → r < n → z.length + (axB (l.drop i)).length ≤ 35184372087000 → p44_1L fail fu K (l.map strRow) n z ((i : Nat) : Int) = K (z ++ encB (axB (l.drop i))) := by
  have hl := axSz_len l
  intro r
  induction r with
  | zero =>
    intro i n z hi hn hz
    obtain ⟨n, rfl⟩ : ∃ m, n = m + 1 := ⟨n - 1, by omega⟩
    rw [p44_1L, p44_1, List.length_map, lssF (by omega), cond_false, List.drop_eq_nil_of_le (by omega)]
    simp [axB]
  | succ r ih =>
    intro i n z hi hn hz
    obtain ⟨n, rfl⟩ : ∃ m, n = m + 1 := ⟨n - 1, by omega⟩
    have hlt : i < l.length := by omega
    have hm := axSz_mem (List.getElem_mem hlt)
    have hd : l.drop i = l[i] :: l.drop (i + 1) := List.drop_eq_getElem_cons hlt
    rw [hd] at hz ⊢
    simp only [axB, List.length_append] at hz ⊢
    have htx : (txB l[i]).length = (varB l[i].size).length + l[i].size := by simp [txB, sz_data]
    have h10 := varB_10 (show l[i].size < 2 ^ 64 by omega)
    rw [p44_1L, p44_1, List.length_map, lssT (by omega), cond_true, gd_y (by omega), gd_y (by omega), str_row fail l i hlt, gsz, rText_w fail fu (by omega) _ _ z (by omega) (by omega), addZ (by omega) (by omega), show ((i : Nat) : Int) + 1 = ((i + 1 : Nat) : Int) by omega]
    rw [ih (i + 1) n _ (by omega) (by omega) (by simp only [List.length_append, encB_length]; omega)]
    simp [List.append_assoc]
theorem rreply_w {ρ : Type} (fail : ρ) (fu : Nat) (K : EL → ρ) (err : Int) (hi lo : Nat) (fuel cells : Int) (yes : Bool) (t : Tm) (pa : Int) (ax : List ByteArray) (hhi : hi < 2 ^ 64) (hlo : lo < 2 ^ 64) (ht1 : t.sz + 60 ≤ fu) (ht2 : t.sz < 1099511627776) (ht3 : t.lvOk) (ha1 : axSz ax + 60 ≤ fu) (ha2 : axSz ax < 1099511627776)
    (hz : (rpEnc err hi lo fuel cells yes t pa ax).length ≤ 35184372086000) : p44 fail fu K nilE err (hi : Nat) (lo : Nat) fuel cells yes t.k t.n t.nm (Lv.rows t.ls) (Tm.rows t.args) pa (ax.map strRow) = K (encB (rpEnc err hi lo fuel cells yes t pa ax)) := by
  have hal := axSz_len ax
  have u1 := varB_10 (uv_lt err)
  have u2 := varB_10 (uv_lt fuel)
  have u3 := varB_10 (uv_lt cells)
  have u4 := varB_10 (uv_lt pa)
  have u5 := varB_10 (show ax.length < 2 ^ 64 by omega)
  have l1 := lowB_len 8 hi
  have l2 := lowB_len 8 lo
  have hv1 : (varB 1).length = 1 := by rw [varB_lt (by omega)]; rfl
  have hv0 : (varB 0).length = 1 := by rw [varB_lt (by omega)]; rfl
  have hy : (varB (if yes = true then 1 else 0)).length = 1 := by split <;> assumption
  have hg : uv ((ax.length : Nat) : Int) = ax.length := uv_nat _ (by omega)
  simp only [rpEnc, List.length_append] at hz
  have tail : ∀ y : EL, y.length + (varB (uv pa)).length + (varB ax.length).length + (axB ax).length ≤ 35184372086900 → p44_2 fail fu K pa (ax.map strRow) y = K (y ++ encB (varB (uv pa) ++ (varB ax.length ++ axB ax))) := fun y hy => by
    have := rax_w fail fu K ax (by omega) ha2 ax.length 0 fu (y ++ encB (varB (uv pa)) ++ encB (varB ax.length)) (by omega) (by omega) (by simp only [List.length_append, encB_length, List.drop_zero]; omega)
    rw [show ((0 : Nat) : Int) = 0 from rfl] at this
    rw [p44_2, rnum_w2 fail fu (by omega) _ y pa (by omega), List.length_map, rnum_w2 fail fu (by omega) _ _ _ (by simp only [List.length_append, encB_length]; omega), hg, this, List.drop_zero]
    simp [List.append_assoc]
  have mid : ∀ (y : EL) (j : Int), uv j = (if yes = true then 1 else 0) → y.length + (varB (if yes = true then 1 else 0)).length + (if isZ t = true then varB 0 else varB 1 ++ t.enc).length + (varB (uv pa)).length + (varB ax.length).length + (axB ax).length ≤ 35184372086900 →
      p44_3 fail fu K t.k t.n t.nm (Lv.rows t.ls) (Tm.rows t.args) pa (ax.map strRow) y j = K (y ++ encB (varB (if yes = true then 1 else 0) ++ ((if isZ t = true then varB 0 else varB 1 ++ t.enc) ++ (varB (uv pa) ++ (varB ax.length ++ axB ax))))) := fun y j hj hyl => by
    rw [p44_3, rnum_w2 fail fu (by omega) _ y j (by omega), hj, rterm_isZ fail fu (by omega)]
    by_cases c : isZ t = true
    · rw [if_pos c] at hyl ⊢
      rw [c, cond_true, rnum_w2 fail fu (by omega) _ _ _ (by simp only [List.length_append, encB_length]; omega), show uv 0 = 0 from rfl, tail _ (by simp only [List.length_append, encB_length]; omega)]
      simp [List.append_assoc]
    · rw [if_neg c] at hyl ⊢
      simp only [List.length_append] at hyl
      rw [Bool.eq_false_iff.2 c, cond_false, rnum_w2 fail fu (by omega) _ _ _ (by simp only [List.length_append, encB_length]; omega), show uv 1 = 1 from rfl, rterm_w fail _ t (Nat.le_refl _) ht3 fu _ _ (by omega) ht2 (by simp only [List.length_append, encB_length]; omega), tail _ (by simp only [List.length_append, encB_length]; omega)]
      simp [List.append_assoc]
  rw [p44, rnum_w2 fail fu (by omega) _ _ err (by simp), p89, rEight_w fail fu (by omega) _ _ (by simp only [List.length_append, encB_length, List.length_nil]; omega) hi hhi, rEight_w fail fu (by omega) _ _ (by simp only [List.length_append, encB_length, List.length_nil]; omega) lo hlo,
    rnum_w2 fail fu (by omega) _ _ fuel (by simp only [List.length_append, encB_length, List.length_nil]; omega), rnum_w2 fail fu (by omega) _ _ cells (by simp only [List.length_append, encB_length, List.length_nil]; omega)]
  have fin : ∀ j : Int, uv j = (if yes = true then 1 else 0) → p44_3 fail fu K t.k t.n t.nm (Lv.rows t.ls) (Tm.rows t.args) pa (ax.map strRow) ((((([] ++ encB (varB (uv err))) ++ encB (lowB 8 hi)) ++ encB (lowB 8 lo)) ++ encB (varB (uv fuel))) ++ encB (varB (uv cells))) j = K (encB (rpEnc err hi lo fuel cells yes t pa ax)) := fun j hj => by
    rw [mid _ j hj (by simp only [List.length_append, encB_length, List.length_nil]; omega), rpEnc]
    simp [List.append_assoc]
  cases hyes : yes with
  | true => rw [cond_true]; subst hyes; exact fin 1 rfl
  | false => rw [cond_false]; subst hyes; exact fin 0 rfl
end Go.Proofs.Ythncmjlcmlmnmaa

namespace Go.Proofs.Ythncmjlcmlmnmaa
open Go V
open Go.RowKit
set_option maxRecDepth 100000
def Spt (b capn : Nat) (w wr : World) : Prop := Ext (fun b' _ => b' = b) w wr ∧ (∀ k, k < capn → ∃ v, wr.cell? ⟨b, k, none⟩ = some v) ∧ (∀ k, k < capn → wr.frozen? ⟨b, k, none⟩ = false)
theorem spt_step {b capn i : Nat} {w wr : World} (hx : Ext (fun b' _ => b' = b) w wr) (hcell : ∀ k, k < capn → ∃ v, wr.cell? ⟨b, k, none⟩ = some v) (hfr : ∀ k, k < capn → wr.frozen? ⟨b, k, none⟩ = false) (hi : i < capn) :
    Spt b capn w (wr.setCell ⟨b, i, none⟩ (.int .u8 90)) := by
  have h1 : Ext (fun b' _ => b' = b) wr (wr.setCell ⟨b, i, none⟩ (.int .u8 90)) := (Ext.setCells wr b i [.int .u8 90]).mono fun x o h => h.1
  refine ⟨hx.trans h1 fun x o h => .inl h, fun k hk => ?_, fun k hk => ?_⟩
  · by_cases e : k = i
    · subst e
      obtain ⟨v, hv⟩ := hcell k hk
      exact ⟨_, World.cell?_setCell_same wr _ _ hv⟩
    · obtain ⟨v, hv⟩ := hcell k hk
      exact ⟨v, (cellAt_setCells_out b i [.int .u8 90] wr b k (fun _ => by simp; omega)).trans hv⟩
  · rw [World.frozen?_setCell]; exact hfr k hk
theorem spoil_any (b n capn : Nat) (w : World) (hn : n ≤ capn) (hc : capn ≤ 9223372036854775807) (hw : Spt b capn w w) :
    Calls Try.prog 32 #[.slice (some ⟨b, 0, none⟩) n capn] w fun e w' => e = .returned (.tuple #[]) ∧ Spt b capn w w' := by
  go_enter Try.func32, Try.ntmps32
  go_wp2
  go_loopw [3] (fun si wr => ∃ (i : Nat), i ≤ capn ∧ si = .int .i64 i ∧ Spt b capn w wr)
    (fun si _ => capn - (intOf si).toNat)
  case atStart => exact ⟨0, Nat.zero_le _, rfl, hw⟩
  case round =>
    obtain ⟨i, hil, rfl, hx, hcell, hfr⟩ := hrel
    by_cases hlt : i < capn
    · obtain ⟨v, hv⟩ := hcell i hlt
      have hf := hfr i hlt
      have hcell' := Lib.hid hcell
      have hfr' := Lib.hid hfr
      clear hcell hfr
      go_wp2
      refine ⟨⟨i + 1, hlt, by push_cast; rfl, spt_step hx hcell'.out hfr'.out hlt⟩, ?_⟩
      simp [intOf]; omega
    · have hcell' := Lib.hid hcell
      have hfr' := Lib.hid hfr
      clear hcell hfr
      go_wp2
      refine ⟨rfl, .tuple #[], ?_, rfl, hx, hcell'.out, hfr'.out⟩
      unfold results; rw [Try.results32]; simp [go_sem]
/-- Whatever it is handed, it writes it over. -/
theorem spoil_den (es : EL) (cap : Option Nat) (n : Nat) : Den Try.prog G0 32 [.arr 1 es cap false n] (fun r bs => ∃ o0 : OV, r = .tup [] ∧ bs = [o0]) := by
  refine ⟨⟨_, Try.func32, by kernel_rfl, by kernel_rfl⟩, fun S F w us hS hF hG ho => ?_⟩
  cases ho with | cons _ u _ us F1 F2 h1 h2 hd =>
  cases h2
  cases h1 with | arr _ _ _ _ _ b capn h =>
  obtain ⟨_, ⟨ht, hb⟩, ⟨e, h3⟩, h4, _, _, _, h8⟩ := h
  have hbig := hb rfl _ _ h3
  have hcell : ∀ k, k < capn → ∃ v, w.cell? ⟨b, k, none⟩ = some v := fun k hk => by
    unfold World.shape? at h3
    unfold World.cell?
    cases hh : w.heap[b]? with
    | none => rw [hh] at h3; simp at h3
    | some ob =>
      rw [hh] at h3
      cases ob with
      | cells cc e' fr =>
        simp only [Option.some.injEq, Prod.mk.injEq] at h3
        have : k < cc.size := by rw [h3.2]; omega
        exact ⟨cc[k], by simp [Array.getElem?_eq_getElem this]⟩
      | _ => simp at h3
  have hfr : ∀ k, k < capn → w.frozen? ⟨b, k, none⟩ = false := fun k hk => by
    cases hz : w.frozen? ⟨b, k, none⟩ with
    | false => rfl
    | true => have := ht _ hz _ _ h3; omega
  refine (spoil_any b n capn w (by omega) (by omega) ⟨Ext.refl _ _, hcell, hfr⟩).mono ?_
  rintro e w' ⟨rfl, hx, _, _⟩
  refine ⟨_, .tup [], [.tup []], S, _, _, rfl, ⟨_, rfl, rfl⟩, .tup [] [] _ .nil, .skip _ _ _ _ _ _ _ (by simp) .nil, ⟨hx.mono fun x o q => .inl ⟨q, by simp⟩, fun _ _ q => q, fun x o q => ⟨Nat.lt_of_lt_of_le (hS x o q) hx.size, .inl q⟩, fun _ _ q => q.elim, fun _ _ q => (q.elim id id).elim⟩⟩
end Go.Proofs.Ythncmjlcmlmnmaa

namespace Go.Proofs.Ythncmjlcmlmnmaa
open Go V
set_option maxRecDepth 100000
set_option maxHeartbeats 4000000
def p9_1 {ρ : Type} (fail : ρ) (fu : Nat)  (K0 : Bool → ρ)   (j8 : Bool) : ρ :=
  K0 j8
def p9_2 {ρ : Type} (fail : ρ) (fu : Nat)  (K0 : Bool → ρ)  (x0 : EL) (y3 : EL) (y4 : Nat) (y5 : Nat) (j7 : Bool) : ρ :=
  bif j7 then (gd (y5 ≤ y3.length) fail (gd (u8E y3 = true) fail (gd (y4 = y3.length) fail (gd (y5 < y3.length) fail (p31 fail fu (fun y9 => p9_1 fail fu  K0  y9) (List.take y5 y3) (List.drop y5 y3) x0))))) else (p9_1 fail fu  K0  false)
def p9_3 {ρ : Type} (fail : ρ) (fu : Nat)  (K0 : Bool → ρ)  (x0 : EL) (x1 : Int) (x2 : Int) (x3 : Int) (x4 : Int) (x5 : Int) (x6 : Bool) (x7 : Int) (x8 : Int) (x9 : ByteArray) (x10 : EL) (x11 : EL) (x12 : Int) (x13 : EL) (j2 : Bool) : ρ :=
  bif j2 then (K0 true) else (p25 fail fu (fun y3 y4 y5 => gd (y5 ≤ y3.length) fail (gd (u8E y3 = true) fail (p43 fail fu (fun y6 => gd (safeT y6 = true) fail (tobP fail y6 (fun s10 => gd (0 = nilE.length) fail (gd ((nilE.length + x0.length) * 1 ≤ 35184372088832) fail (p44 fail fu (fun y11 => tobP fail y11 (fun s12 => bif (scmpStd .eql s10 s12) then (gd (y5 ≤ y3.length) fail (gd (u8E y3 = true) fail (gd (y4 = y3.length) fail (gd (y5 < y3.length) fail (p31 fail fu (fun y13 => p9_2 fail fu  K0 x0 y3 y4 y5 y13) (List.take y5 y3) (List.drop y5 y3) x0))))) else (p9_2 fail fu  K0 x0 y3 y4 y5 false))) (nilE ++ x0) x1 x2 x3 x4 x5 x6 x7 x8 x9 x10 x11 x12 x13))))) (List.take y5 y3) x1 x2 x3 x4 x5 x6 x7 x8 x9 x10 x11 x12 x13))) x0)
/-- law26.ReplyWrites -/
def p9 {ρ : Type} (fail : ρ) (fu : Nat)  (K0 : Bool → ρ) (x0 : EL) (x1 : Int) (x2 : Int) (x3 : Int) (x4 : Int) (x5 : Int) (x6 : Bool) (x7 : Int) (x8 : Int) (x9 : ByteArray) (x10 : EL) (x11 : EL) (x12 : Int) (x13 : EL) : ρ :=
  p41 fail fu (fun y1 => bif (!y1) then (K0 false) else (bif (cmpStd .gtr ((x0.length : Nat) : Int) 1000) then (p9_3 fail fu  K0 x0 x1 x2 x3 x4 x5 x6 x7 x8 x9 x10 x11 x12 x13 true) else (bif (cmpStd .gtr ((x13.length : Nat) : Int) 1024) then (p9_3 fail fu  K0 x0 x1 x2 x3 x4 x5 x6 x7 x8 x9 x10 x11 x12 x13 true) else (p42 fail fu (fun y14 => p9_3 fail fu  K0 x0 x1 x2 x3 x4 x5 x6 x7 x8 x9 x10 x11 x12 x13 (!y14)) x1 x2 x3 x4 x5 x6 x7 x8 x9 x10 x11 x12 x13)))) 
theorem d_p9 (fu : Nat)  {K0 : Bool → Prop} (L : EL → Nat) (hN : L = List.length) {x0 : EL} {x1 : Int} {x2 : Int} {x3 : Int} {x4 : Int} {x5 : Int} {x6 : Bool} {x7 : Int} {x8 : Int} {x9 : ByteArray} {x10 : EL} {x11 : EL} {x12 : Int} {x13 : EL} (h : p9 False fu K0 x0 x1 x2 x3 x4 x5 x6 x7 x8 x9 x10 x11 x12 x13) : Den Try.prog G0 9 [.c (.sl 1 x0 none), .agg [.c (.v (.int .i64 x1)), .c (.v (.int .u64 x2)), .c (.v (.int .u64 x3)), .c (.v (.int .i64 x4)), .c (.v (.int .i64 x5)), .c (.v (.bool x6)), .c (.v (.int .i64 x7)), .c (.v (.int .i64 x8)), .c (.v (.string x9)), .c (.sl 3 x10 none), .c (.sl 5 x11 none), .c (.v (.int .i64 x12)), .c (.sl 1 x13 none)]] (fun r bs => (∃ (y0 : Bool) (o0 : OV) (o1 : OV), (r = .c (.v (.bool y0)) ∧ bs = [o0, o1]) ∧ K0 y0)) := by
  obtain ⟨O, hO⟩ : ∃ O, O = std 0 T G0 (Den Try.prog G0) := ⟨_, rfl⟩
  have hLO : L = O.len := by rw [hN, hO]; rfl
  subst hLO
  refine den_h hO tiA mixed tabOk (fn := Try.f9) (sh := true) (by kernel_rfl) rfl rfl rfl rfl ?_
  intro Q hQ
  unfold p9 at h
  conv => cbv
  refine call_h hO [] (d_p41 fu O.len hN h) ?_
  intro os Q hos hQ
  conv => cbv
  refine ⟨(by (rw [hos]) <;> (subst hO; rfl)), ?_⟩
  intro r bs hq
  rw [hQ] at hq
  clear hos hQ h
  obtain ⟨y1, ⟨rfl, rfl⟩, h⟩ := hq
  conv => cbv
  refine br_h hO h (by subst hO; rfl) (fun hc1 h => ?_) (fun hc1 h => ?_)
  · conv => cbv
    rw [hQ]
    exact ⟨false, _, _, ⟨(by subst hO; rfl), (by subst hO; rfl)⟩, h⟩
  · conv => cbv
    refine join_all hO ?_
    conv => cbv
    refine reg_join hO tiA [0, 3, 23] [4000] [] (fun tm m => ∃ (j2 : Bool), ((tm = frame 0 51 [(0, .c (.sl 1 x0 none)), (3, .p 4000 0 0), (23, .c (.v (.bool j2)))] ∧ m = ⟨[(4000, .blk 0 [.c (.v (.int .i64 x1)), .c (.v (.int .u64 x2)), .c (.v (.int .u64 x3)), .c (.v (.int .i64 x4)), .c (.v (.int .i64 x5)), .c (.v (.bool x6)), .c (.v (.int .i64 x7)), .c (.v (.int .i64 x8)), .c (.v (.string x9)), .c (.sl 3 x10 none), .c (.sl 5 x11 none), .c (.v (.int .i64 x12)), .c (.sl 1 x13 none)])], 1⟩)) ∧ p9_3 False fu  K0 x0 x1 x2 x3 x4 x5 x6 x7 x8 x9 x10 x11 x12 x13 j2) (fun L hL_3 => ?_) ?_
    · conv => cbv
      refine br_h hO h (by subst hO; rfl) (fun hc16 h => ?_) (fun hc16 h => ?_)
      · conv => cbv
        refine br_t hO hc16 ?_
        conv => cbv
        refine br_t hO hc16 ?_
        conv => cbv
        refine br_t hO hc16 ?_
        conv => cbv
        refine br_t hO hc16 ?_
        conv => cbv
        refine br_t hO rfl ?_
        conv => cbv
        refine br_t hO rfl ?_
        conv => cbv
        refine br_t hO rfl ?_
        conv => cbv
        refine br_t hO rfl ?_
        conv => cbv
        exact hL_3 _ _ ⟨true, ⟨(by (conv => lhs; cbv) <;> (subst hO; rfl)), (by (conv => lhs; cbv) <;> (subst hO; rfl))⟩, h⟩
      · conv => cbv
        refine br_f hO hc16 ?_
        conv => cbv
        refine br_f hO hc16 ?_
        conv => cbv
        refine br_f hO hc16 ?_
        conv => cbv
        refine br_f hO hc16 ?_
        conv => cbv
        refine br_h hO h (by subst hO; rfl) (fun hc17 h => ?_) (fun hc17 h => ?_)
        · conv => cbv
          refine br_t hO hc17 ?_
          conv => cbv
          refine br_t hO hc17 ?_
          conv => cbv
          refine br_t hO hc17 ?_
          conv => cbv
          exact hL_3 _ _ ⟨true, ⟨(by (conv => lhs; cbv) <;> (subst hO; rfl)), (by (conv => lhs; cbv) <;> (subst hO; rfl))⟩, h⟩
        · conv => cbv
          refine br_f hO hc17 ?_
          conv => cbv
          refine call_h hO [.shut] (d_p42 fu O.len hN h) ?_
          intro os Q hos hQ
          conv => cbv
          refine ⟨(by (rw [hos]) <;> (subst hO; rfl)), ?_⟩
          intro r bs hq
          rw [hQ] at hq
          clear hos hQ h
          obtain ⟨y14, _, ⟨rfl, rfl⟩, h⟩ := hq
          conv => cbv
          refine br_f hO hc17 ?_
          conv => cbv
          refine br_f hO hc17 ?_
          conv => cbv
          exact hL_3 _ _ ⟨(!y14), ⟨(by (conv => lhs; cbv) <;> (subst hO; rfl)), (by (conv => lhs; cbv) <;> (subst hO; rfl))⟩, h⟩
    · rintro tm m ⟨j2, hs, h⟩
      unfold p9_3 at h
      obtain ⟨rfl, rfl⟩ := hs
      conv => cbv
      refine br_h hO h (by subst hO; rfl) (fun hc2 h => ?_) (fun hc2 h => ?_)
      · conv => cbv
        rw [hQ]
        exact ⟨true, _, _, ⟨(by subst hO; rfl), (by subst hO; rfl)⟩, h⟩
      · conv => cbv
        refine join_all hO ?_
        conv => cbv
        refine call_h hO [.shut] (d_p25 fu O.len hN h) ?_
        intro os Q hos hQ
        conv => cbv
        refine ⟨(by (rw [hos]) <;> (subst hO; rfl)), ?_⟩
        intro r bs hq
        rw [hQ] at hq
        clear hos hQ h
        obtain ⟨y3, y4, y5, _, ⟨rfl, rfl⟩, h⟩ := hq
        conv => cbv
        refine alt_l hO ?_
        conv => cbv
        obtain ⟨hc3, h⟩ := gd_inv h
        obtain ⟨hc4, h⟩ := gd_inv h
        refine lend_h hO (d_p43 fu O.len hN h) ?_ ?_
        · subst hO; exact (lend_t rfl hc3 hc4 (lend_agg (lendC_c rfl (lendC_c rfl (lendC_c rfl (lendC_c rfl (lendC_c rfl (lendC_c rfl (lendC_c rfl (lendC_c rfl (lendC_c rfl (lendC_c rfl (lendC_c rfl (lendC_c rfl (lendC_c rfl lendC_nil))))))))))))) lend_nil))
        intro r bs hq
        clear h
        obtain ⟨y6, _, _, ⟨rfl, rfl⟩, h⟩ := hq
        obtain ⟨hc5, h⟩ := gd_inv h
        refine ⟨(by simp [safeO, safeOs, safeC, safeP, safeE, hc5]), ?_⟩
        conv => cbv
        refine drawn_join hO tiA [[32000], [32000], [32000], [], []] [(0, true, false), (1, true, false), (3, true, false), (5, true, false), (2, false, false), (4, false, false), (6, false, false), (7, true, false), (8, true, true), (9, true, true), (10, true, true), (11, true, true), (12, false, true), (13, true, true), (14, true, true)] (by kernel_rfl) [0, 5, 6, 7] [26000, 29000] [] (fun tm m => ∃ (j7 : Bool), ((tm = frame 0 51 [(0, .c (.sl 1 x0 none)), (5, .t 26000 0 y5), (6, .t 29000 0 (O.len y6)), (7, .c (.v (.bool j7)))] ∧ m = ⟨[(26000, .arr 0 1 y3 (some y4) false), (29000, .arr 0 1 y6 none false)], 1⟩)) ∧ p9_2 False fu  K0 x0 y3 y4 y5 j7) (fun L hL_2 => ?_) ?_
        · conv => cbv
          refine view_full hO ?_
          conv => cbv
          refine tob_h hO h (by subst hO; rfl) (fun s10 h => ?_)
          conv => cbv
          refine ⟨agree_of hO (Nat.le_of_ble_eq_true rfl) rfl, ?_⟩
          refine and_h h (fun g => (by subst hO; exact g)) (fun h => ?_)
          refine and_h h (fun g => (by subst hO; exact g)) (fun h => ?_)
          refine ⟨agree_of hO (Nat.le_of_ble_eq_true rfl) rfl, ?_⟩
          refine call_h hO [.shut, .shut] (d_p44 fu O.len hN h) ?_
          intro os Q hos hQ
          conv => cbv
          refine view_full hO ?_
          conv => cbv
          refine ⟨(by (rw [hos]) <;> (subst hO; rfl)), ?_⟩
          intro r bs hq
          rw [hQ] at hq
          clear hos hQ h
          obtain ⟨y11, _, _, ⟨rfl, rfl⟩, h⟩ := hq
          conv => cbv
          refine ⟨agree_of hO (Nat.le_of_ble_eq_true rfl) rfl, ?_⟩
          refine tob_h hO h (by subst hO; rfl) (fun s12 h => ?_)
          conv => cbv
          refine br_h hO h (by subst hO; rfl) (fun hc11 h => ?_) (fun hc11 h => ?_)
          · conv => cbv
            refine br_t hO hc11 ?_
            conv => cbv
            refine br_t hO hc11 ?_
            conv => cbv
            obtain ⟨hc12, h⟩ := gd_inv h
            obtain ⟨hc13, h⟩ := gd_inv h
            obtain ⟨hc14, h⟩ := gd_inv h
            obtain ⟨hc15, h⟩ := gd_inv h
            refine lend_h hO (d_p31 fu O.len hN h) ?_ ?_
            · subst hO; exact (lend_f rfl hc12 hc13 hc14 hc15 (lend_c rfl lend_nil))
            intro r bs hq
            clear h
            obtain ⟨y13, _, _, ⟨rfl, rfl⟩, h⟩ := hq
            refine ⟨(by simp [safeO, safeOs, safeC, safeP, safeE]), ?_⟩
            conv => cbv
            refine br_t hO hc11 ?_
            conv => cbv
            exact hL_2 _ _ ⟨y13, ⟨(by (conv => lhs; cbv) <;> (subst hO; rfl)), (by (conv => lhs; cbv) <;> (subst hO; rfl))⟩, h⟩
          · conv => cbv
            refine br_f hO hc11 ?_
            conv => cbv
            refine br_f hO hc11 ?_
            conv => cbv
            refine br_f hO hc11 ?_
            conv => cbv
            exact hL_2 _ _ ⟨false, ⟨(by (conv => lhs; cbv) <;> (subst hO; rfl)), (by (conv => lhs; cbv) <;> (subst hO; rfl))⟩, h⟩
        · rintro tm m ⟨j7, hs, h⟩
          unfold p9_2 at h
          obtain ⟨rfl, rfl⟩ := hs
          conv => cbv
          refine alt_l hO ?_
          conv => cbv
          refine call_h hO [.own] (spoil_den y6 none y6.length) ?_
          intro os Q hos hQ
          conv => cbv
          refine ⟨(by subst hO; exact Nat.le_refl _), ?_⟩
          refine ⟨(by (rw [hos]) <;> (subst hO; rfl)), ?_⟩
          intro r bs hq
          rw [hQ] at hq
          clear hos hQ
          obtain ⟨_, rfl, rfl⟩ := hq
          conv => cbv
          refine reg_join hO tiA [4] [] [] (fun tm m => ∃ (j8 : Bool), ((tm = frame 0 51 [(4, .c (.v (.bool j8)))] ∧ m = ⟨[], 1⟩)) ∧ p9_1 False fu  K0  j8) (fun L hL_1 => ?_) ?_
          · conv => cbv
            refine br_h hO h (by subst hO; rfl) (fun hc6 h => ?_) (fun hc6 h => ?_)
            · conv => cbv
              refine br_t hO hc6 ?_
              conv => cbv
              refine br_t hO hc6 ?_
              conv => cbv
              obtain ⟨hc7, h⟩ := gd_inv h
              obtain ⟨hc8, h⟩ := gd_inv h
              obtain ⟨hc9, h⟩ := gd_inv h
              obtain ⟨hc10, h⟩ := gd_inv h
              refine lend_h hO (d_p31 fu O.len hN h) ?_ ?_
              · subst hO; exact (lend_f rfl hc7 hc8 hc9 hc10 (lend_c rfl lend_nil))
              intro r bs hq
              clear h
              obtain ⟨y9, _, _, ⟨rfl, rfl⟩, h⟩ := hq
              refine ⟨(by simp [safeO, safeOs, safeC, safeP, safeE]), ?_⟩
              conv => cbv
              refine br_t hO hc6 ?_
              conv => cbv
              exact hL_1 _ _ ⟨y9, ⟨(by (conv => lhs; cbv) <;> (subst hO; rfl)), (by (conv => lhs; cbv) <;> (subst hO; rfl))⟩, h⟩
            · conv => cbv
              refine br_f hO hc6 ?_
              conv => cbv
              refine br_f hO hc6 ?_
              conv => cbv
              refine br_f hO hc6 ?_
              conv => cbv
              exact hL_1 _ _ ⟨false, ⟨(by (conv => lhs; cbv) <;> (subst hO; rfl)), (by (conv => lhs; cbv) <;> (subst hO; rfl))⟩, h⟩
          · rintro tm m ⟨j8, hs, h⟩
            unfold p9_1 at h
            obtain ⟨rfl, rfl⟩ := hs
            conv => cbv
            rw [hQ]
            exact ⟨j8, _, _, ⟨(by subst hO; rfl), (by subst hO; rfl)⟩, h⟩
end Go.Proofs.Ythncmjlcmlmnmaa
