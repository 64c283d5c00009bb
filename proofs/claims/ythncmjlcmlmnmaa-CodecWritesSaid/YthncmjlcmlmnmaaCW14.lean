/- Functions without memory, and that the Go functions are followed by them. Printed by gen.py. Conditions: none. -/
import Derived.Test.YthncmjlcmlmnmaaCW9
import Derived.Test.YthncmjlcmlmnmaaCW13
import Derived.Test.YthncmjlcmlmnmaaCW12
import Derived.Test.YthncmjlcmlmnmaaCW11
import Derived.KernelRfl
namespace Go.Proofs.Ythncmjlcmlmnmaa
open Go V
set_option maxRecDepth 100000
set_option maxHeartbeats 4000000
def p62_1 {ρ : Type} (fail : ρ) (fu : Nat) (s_p62 : (Bool → ρ) → Int → Int → ByteArray → EL → EL → ρ) (K0 : Bool → ρ) (rec1 : Int → ρ) (x4 : EL) (z1 : Int) : ρ :=
  bif (cmpStd .lss z1 ((x4.length : Nat) : Int)) then (gd ((0 : Int) ≤ z1) fail (gd ((z1 : Int) < (x4.length : Nat)) fail (rw_i64_i64_s_l3_l5 fail (List.getD x4 ((z1 : Int).toNat) []) (fun c2 c3 c4 c5 c6 => s_p62 (fun y7 => bif (!y7) then (K0 false) else (rec1 (binStd .add .i64 z1 1))) c2 c3 c4 c5 c6)))) else (K0 true)
def p62_1L {ρ : Type} (fail : ρ) (fu : Nat) (s_p62 : (Bool → ρ) → Int → Int → ByteArray → EL → EL → ρ) (K0 : Bool → ρ)  (x4 : EL) : Nat → Int → ρ
  | 0, _ => fail
  | n + 1, z1 => p62_1 fail fu s_p62 K0 (p62_1L fail fu s_p62 K0  x4 n) x4 z1
/-- ref6.names -/
def p62_b {ρ : Type} (fail : ρ) (fu : Nat) (s_p62 : (Bool → ρ) → Int → Int → ByteArray → EL → EL → ρ) (K0 : Bool → ρ) (x0 : Int) (x1 : Int) (x2 : ByteArray) (x3 : EL) (x4 : EL) : ρ :=
  bif (cmpStd .gtr ((x2.size : Nat) : Int) 24) then (K0 false) else (p62_1L fail fu s_p62 K0 x4 fu 0)
def p62 {ρ : Type} (fail : ρ) : Nat → (Bool → ρ) → Int → Int → ByteArray → EL → EL → ρ
  | 0, _, _, _, _, _, _ => fail
  | n + 1, K0, x0, x1, x2, x3, x4 => p62_b fail n (p62 fail n) K0 x0 x1 x2 x3 x4
def D_p62 (fu : Nat) : Prop := ∀ {K0 : Bool → Prop} (L : EL → Nat) (_ : L = List.length) {x0 : Int} {x1 : Int} {x2 : ByteArray} {x3 : EL} {x4 : EL} (_ : p62 False fu K0 x0 x1 x2 x3 x4), Den Try.prog G0 62 [.agg [.c (.v (.int .i64 x0)), .c (.v (.int .i64 x1)), .c (.v (.string x2)), .c (.sl 3 x3 none), .c (.sl 5 x4 none)]] (fun r bs => (∃ (y0 : Bool) (o0 : OV), (r = .c (.v (.bool y0)) ∧ bs = [o0]) ∧ K0 y0))
theorem b_p62 (fu : Nat) (ih_p62 : D_p62 fu) {K0 : Bool → Prop} (L : EL → Nat) (hN : L = List.length) {x0 : Int} {x1 : Int} {x2 : ByteArray} {x3 : EL} {x4 : EL} (h : p62_b False fu (p62 False fu) K0 x0 x1 x2 x3 x4) : Den Try.prog G0 62 [.agg [.c (.v (.int .i64 x0)), .c (.v (.int .i64 x1)), .c (.v (.string x2)), .c (.sl 3 x3 none), .c (.sl 5 x4 none)]] (fun r bs => (∃ (y0 : Bool) (o0 : OV), (r = .c (.v (.bool y0)) ∧ bs = [o0]) ∧ K0 y0)) := by
  obtain ⟨O, hO⟩ : ∃ O, O = std 0 T G0 (Den Try.prog G0) := ⟨_, rfl⟩
  have hLO : L = O.len := by rw [hN, hO]; rfl
  subst hLO
  refine den_h hO tiA mixed tabOk (fn := Try.f62) (sh := true) (by kernel_rfl) rfl rfl rfl rfl ?_
  intro Q hQ
  unfold p62_b at h
  conv => cbv
  refine br_h hO h (by subst hO; rfl) (fun hc1 h => ?_) (fun hc1 h => ?_)
  · conv => cbv
    rw [hQ]
    exact ⟨false, _, ⟨(by subst hO; rfl), (by subst hO; rfl)⟩, h⟩
  · conv => cbv
    refine join_all hO ?_
    conv => cbv
    refine loop_of hO tiA [1, 3] [2000] [] (fun (n : Nat) tm m => ∃ (z1 : Int), ((tm = frame 0 22 [(1, .p 2000 0 0), (3, .c (.v (.int .i64 z1)))] ∧ m = ⟨[(2000, .blk 0 [.c (.v (.int .i64 x0)), .c (.v (.int .i64 x1)), .c (.v (.string x2)), .c (.sl 3 x3 none), .c (.sl 5 x4 none)])], 1⟩)) ∧ p62_1L False fu (p62 False fu) K0 x4 n z1) (fun n => n) fu ⟨0, ⟨(by (conv => lhs; cbv) <;> (subst hO; rfl)), (by (conv => lhs; cbv) <;> (subst hO; rfl))⟩, h⟩ ?_
    rintro n1 tm m L ⟨z1, hs, h⟩ hLn1
    cases n1 with
    | zero => rw [p62_1L] at h; exact h.elim
    | succ n1 =>
      rw [p62_1L] at h
      unfold p62_1 at h
      obtain ⟨rfl, rfl⟩ := hs
      conv => cbv
      refine br_h hO h (by subst hO; rfl) (fun hc2 h => ?_) (fun hc2 h => ?_)
      · conv => cbv
        refine join_all hO ?_
        conv => cbv
        refine and_h h (fun g => (by subst hO; exact g)) (fun h => ?_)
        refine and_h h (fun g => (by subst hO; exact g)) (fun h => ?_)
        obtain ⟨c2, c3, c4, c5, c6, hr, h⟩ := rw_i64_i64_s_l3_l5_inv h
        refine elem_of hO _ (by subst hO; exact hr) ?_
        clear hr
        conv => cbv
        refine call_h hO [.shut] (ih_p62 O.len hN h) ?_
        intro os Q hos hQ
        conv => cbv
        refine ⟨(by (rw [hos]) <;> (subst hO; rfl)), ?_⟩
        intro r bs hq
        rw [hQ] at hq
        clear hos hQ h
        obtain ⟨y7, _, ⟨rfl, rfl⟩, h⟩ := hq
        conv => cbv
        refine br_h hO h (by subst hO; rfl) (fun hc3 h => ?_) (fun hc3 h => ?_)
        · conv => cbv
          rw [hQ]
          exact ⟨false, _, ⟨(by subst hO; rfl), (by subst hO; rfl)⟩, h⟩
        · conv => cbv
          refine join_all hO ?_
          conv => cbv
          exact hLn1 n1 _ _ (Nat.lt_succ_self n1) ⟨binStd .add .i64 z1 1, ⟨(by (conv => lhs; cbv) <;> (subst hO; rfl)), (by (conv => lhs; cbv) <;> (subst hO; rfl))⟩, h⟩
      · conv => cbv
        rw [hQ]
        exact ⟨true, _, ⟨(by subst hO; rfl), (by subst hO; rfl)⟩, h⟩
theorem dd_p62 (fu : Nat) : D_p62 fu := by
  induction fu with
  | zero => unfold D_p62; intros; rename_i h; rw [p62] at h; exact h.elim
  | succ n ih =>
    exact (by unfold D_p62; intro K0 L hN x0 x1 x2 x3 x4 h; exact b_p62 n ih L hN (by rw [p62] at h; exact h))
theorem d_p62 (fu : Nat) {K0 : Bool → Prop} (L : EL → Nat) (hL : L = List.length) {x0 : Int} {x1 : Int} {x2 : ByteArray} {x3 : EL} {x4 : EL} (h : p62 False fu K0 x0 x1 x2 x3 x4) : Den Try.prog G0 62 [.agg [.c (.v (.int .i64 x0)), .c (.v (.int .i64 x1)), .c (.v (.string x2)), .c (.sl 3 x3 none), .c (.sl 5 x4 none)]] (fun r bs => (∃ (y0 : Bool) (o0 : OV), (r = .c (.v (.bool y0)) ∧ bs = [o0]) ∧ K0 y0)) := dd_p62 fu L hL h
end Go.Proofs.Ythncmjlcmlmnmaa

namespace Go.Proofs.Ythncmjlcmlmnmaa
open Go V
set_option maxRecDepth 100000
set_option maxHeartbeats 4000000
def p16_1 {ρ : Type} (fail : ρ) (fu : Nat)  (K0 : Bool → ρ)   (j3 : Bool) : ρ :=
  K0 j3
/-- ref6.MayTerm -/
def p16 {ρ : Type} (fail : ρ) (fu : Nat)  (K0 : Bool → ρ) (x0 : Int) (x1 : Int) (x2 : ByteArray) (x3 : EL) (x4 : EL) : ρ :=
  p59 fail fu (fun y1 y2 => bif y2 then (p60 fail fu (fun y4 => bif (cmpStd .leq y4 100) then (p61 fail fu (fun y5 => bif y5 then (p62 fail fu (fun y6 => p16_1 fail fu  K0  y6) x0 x1 x2 x3 x4) else (p16_1 fail fu  K0  false)) x0 x1 x2 x3 x4) else (p16_1 fail fu  K0  false)) x0 x1 x2 x3 x4 100) else (p16_1 fail fu  K0  false)) x0 x1 x2 x3 x4 2000
theorem d_p16 (fu : Nat)  {K0 : Bool → Prop} (L : EL → Nat) (hN : L = List.length) {x0 : Int} {x1 : Int} {x2 : ByteArray} {x3 : EL} {x4 : EL} (h : p16 False fu K0 x0 x1 x2 x3 x4) : Den Try.prog G0 16 [.agg [.c (.v (.int .i64 x0)), .c (.v (.int .i64 x1)), .c (.v (.string x2)), .c (.sl 3 x3 none), .c (.sl 5 x4 none)]] (fun r bs => (∃ (y0 : Bool) (o0 : OV), (r = .c (.v (.bool y0)) ∧ bs = [o0]) ∧ K0 y0)) := by
  obtain ⟨O, hO⟩ : ∃ O, O = std 0 T G0 (Den Try.prog G0) := ⟨_, rfl⟩
  have hLO : L = O.len := by rw [hN, hO]; rfl
  subst hLO
  refine den_h hO tiA mixed tabOk (fn := Try.f16) (sh := true) (by kernel_rfl) rfl rfl rfl rfl ?_
  intro Q hQ
  unfold p16 at h
  conv => cbv
  refine call_h hO [.shut, .shut] (d_p59 fu O.len hN h) ?_
  intro os Q hos hQ
  conv => cbv
  refine ⟨(by (rw [hos]) <;> (subst hO; rfl)), ?_⟩
  intro r bs hq
  rw [hQ] at hq
  clear hos hQ h
  obtain ⟨y1, y2, _, _, ⟨rfl, rfl⟩, h⟩ := hq
  conv => cbv
  refine reg_join hO tiA [2] [] [] (fun tm m => ∃ (j3 : Bool), ((tm = frame 0 24 [(2, .c (.v (.bool j3)))] ∧ m = ⟨[], 1⟩)) ∧ p16_1 False fu  K0  j3) (fun L hL_1 => ?_) ?_
  · conv => cbv
    refine br_h hO h (by subst hO; rfl) (fun hc1 h => ?_) (fun hc1 h => ?_)
    · conv => cbv
      refine br_t hO hc1 ?_
      conv => cbv
      refine call_h hO [.shut, .shut] (d_p60 fu O.len hN h) ?_
      intro os Q hos hQ
      conv => cbv
      refine ⟨(by (rw [hos]) <;> (subst hO; rfl)), ?_⟩
      intro r bs hq
      rw [hQ] at hq
      clear hos hQ h
      obtain ⟨y4, _, _, ⟨rfl, rfl⟩, h⟩ := hq
      conv => cbv
      refine br_t hO hc1 ?_
      conv => cbv
      refine br_t hO hc1 ?_
      conv => cbv
      refine br_h hO h (by subst hO; rfl) (fun hc2 h => ?_) (fun hc2 h => ?_)
      · conv => cbv
        refine br_t hO hc2 ?_
        conv => cbv
        refine call_h hO [.shut] (d_p61 fu O.len hN h) ?_
        intro os Q hos hQ
        conv => cbv
        refine ⟨(by (rw [hos]) <;> (subst hO; rfl)), ?_⟩
        intro r bs hq
        rw [hQ] at hq
        clear hos hQ h
        obtain ⟨y5, _, ⟨rfl, rfl⟩, h⟩ := hq
        conv => cbv
        refine br_t hO hc2 ?_
        conv => cbv
        refine br_h hO h (by subst hO; rfl) (fun hc3 h => ?_) (fun hc3 h => ?_)
        · conv => cbv
          refine br_t hO hc3 ?_
          conv => cbv
          refine call_h hO [.shut] (d_p62 fu O.len hN h) ?_
          intro os Q hos hQ
          conv => cbv
          refine ⟨(by (rw [hos]) <;> (subst hO; rfl)), ?_⟩
          intro r bs hq
          rw [hQ] at hq
          clear hos hQ h
          obtain ⟨y6, _, ⟨rfl, rfl⟩, h⟩ := hq
          conv => cbv
          refine br_t hO hc3 ?_
          conv => cbv
          exact hL_1 _ _ ⟨y6, ⟨(by (conv => lhs; cbv) <;> (subst hO; rfl)), (by (conv => lhs; cbv) <;> (subst hO; rfl))⟩, h⟩
        · conv => cbv
          refine br_f hO hc3 ?_
          conv => cbv
          refine br_f hO hc3 ?_
          conv => cbv
          exact hL_1 _ _ ⟨false, ⟨(by (conv => lhs; cbv) <;> (subst hO; rfl)), (by (conv => lhs; cbv) <;> (subst hO; rfl))⟩, h⟩
      · conv => cbv
        refine br_f hO hc2 ?_
        conv => cbv
        refine br_f hO hc2 ?_
        conv => cbv
        refine br_f hO rfl ?_
        conv => cbv
        refine br_f hO rfl ?_
        conv => cbv
        refine br_f hO rfl ?_
        conv => cbv
        exact hL_1 _ _ ⟨false, ⟨(by (conv => lhs; cbv) <;> (subst hO; rfl)), (by (conv => lhs; cbv) <;> (subst hO; rfl))⟩, h⟩
    · conv => cbv
      refine br_f hO hc1 ?_
      conv => cbv
      refine br_f hO hc1 ?_
      conv => cbv
      refine br_f hO hc1 ?_
      conv => cbv
      refine br_f hO rfl ?_
      conv => cbv
      refine br_f hO rfl ?_
      conv => cbv
      refine br_f hO rfl ?_
      conv => cbv
      refine br_f hO rfl ?_
      conv => cbv
      refine br_f hO rfl ?_
      conv => cbv
      refine br_f hO rfl ?_
      conv => cbv
      exact hL_1 _ _ ⟨false, ⟨(by (conv => lhs; cbv) <;> (subst hO; rfl)), (by (conv => lhs; cbv) <;> (subst hO; rfl))⟩, h⟩
  · rintro tm m ⟨j3, hs, h⟩
    unfold p16_1 at h
    obtain ⟨rfl, rfl⟩ := hs
    conv => cbv
    rw [hQ]
    exact ⟨j3, _, ⟨(by subst hO; rfl), (by subst hO; rfl)⟩, h⟩
end Go.Proofs.Ythncmjlcmlmnmaa

namespace Go.Proofs.Ythncmjlcmlmnmaa
open Go V
set_option maxRecDepth 100000
set_option maxHeartbeats 2000000
/-- p comes to a bool, and if it is true, A. -/
def BO {ρ : Type} (p : (Bool → ρ) → ρ) (A : Prop) : Prop := ∃ b, (∀ K : Bool → ρ, p K = K b) ∧ (b = true → A)
theorem rargs_any {ρ : Type} (fail : ρ) (fu : Nat) (k : Int) : ∃ a : Int, (∀ K : Int → ρ, p136 fail fu K k = K a) ∧ ((a = 0 ∧ (k = 0 ∨ k = 1 ∨ k = 2)) ∨ (a = 2 ∧ (k = 3 ∨ k = 4 ∨ k = 5)) ∨ (a = 3 ∧ k = 6) ∨ a = -1) := by
  by_cases h : 0 ≤ k ∧ k ≤ 6
  · obtain ⟨n, rfl⟩ : ∃ n : Nat, k = n := ⟨k.toNat, by omega⟩
    refine ⟨((nkN n : Nat) : Int), fun K => rargs_eq fail fu K n (by omega), ?_⟩
    have : n = 0 ∨ n = 1 ∨ n = 2 ∨ n = 3 ∨ n = 4 ∨ n = 5 ∨ n = 6 := by omega
    rcases this with rfl | rfl | rfl | rfl | rfl | rfl | rfl <;> simp [nkN, tmN]
  · refine ⟨-1, fun K => ?_, .inr (.inr (.inr rfl))⟩
    rw [p136, eqlF (by omega), cond_false, eqlF (by omega), cond_false, p136_4, eqlF (by omega), p136_3, cond_false, eqlF (by omega), cond_false, eqlF (by omega), cond_false, p136_2, eqlF (by omega), p136_1, cond_false, eqlF (by omega), cond_false]
/-- One part's form. -/
def PartOk (k n : Int) (s : ByteArray) (ll al : Nat) : Prop :=
  (k = 0 ∧ 0 ≤ n ∧ n ≤ 1073741824 ∧ s.size = 0 ∧ ll = 0 ∧ al = 0) ∨ (k = 1 ∧ n = 0 ∧ s.size = 0 ∧ ll = 1 ∧ al = 0) ∨ (k = 2 ∧ n = 0 ∧ al = 0) ∨ (3 ≤ k ∧ k ≤ 6 ∧ n = 0 ∧ s.size = 0 ∧ ll = 0 ∧ al = tmN k.toNat)
theorem part_may {ρ : Type} (fail : ρ) (fu : Nat) (k n : Int) (s : ByteArray) (L A : EL) : BO (fun K => p108 fail fu K k n s L A) (PartOk k n s L.length A.length) := by
  obtain ⟨a, ha, hk⟩ := rargs_any fail fu k
  have bad : ∀ K : Bool → ρ, p108_2 fail fu K k L true = K false := fun K => by rw [p108_2, cond_true]
  by_cases c1 : a = ((A.length : Nat) : Int)
  · have h1 : ∀ K : Bool → ρ, p108 fail fu K k n s L A = (bif (cmpStd .neq k 0) then (bif (cmpStd .neq n 0) then (p108_2 fail fu K k L true) else (bif (cmpStd .lss n 0) then (p108_2 fail fu K k L true) else (bif (cmpStd .gtr n 1073741824) then (p108_2 fail fu K k L true) else (bif (cmpStd .neq k 2) then (p108_2 fail fu K k L (scmpStd .neq s ⟨#[]⟩)) else (p108_2 fail fu K k L false))))) else (bif (cmpStd .lss n 0) then (p108_2 fail fu K k L true) else (bif (cmpStd .gtr n 1073741824) then (p108_2 fail fu K k L true) else (bif (cmpStd .neq k 2) then (p108_2 fail fu K k L (scmpStd .neq s ⟨#[]⟩)) else (p108_2 fail fu K k L false))))) := fun K => by
      rw [p108, ha, neqF c1, cond_false]
    by_cases k2 : k = 2
    · by_cases n0 : n = 0
      · refine ⟨true, fun K => ?_, fun _ => .inr (.inr (.inl ⟨k2, n0, by omega⟩))⟩
        dsimp only
        rw [h1, neqT (by omega), cond_true, neqF n0, cond_false, lssF (by omega), cond_false, gtrF (by omega), cond_false, neqF k2, cond_false, p108_2, cond_false, eqlT k2, cond_true, p108_1]
      · refine ⟨false, fun K => ?_, fun h => by cases h⟩
        dsimp only
        rw [h1, neqT (by omega), cond_true, neqT n0, cond_true, bad]
    · by_cases hn : 0 ≤ n ∧ n ≤ 1073741824 ∧ (k ≠ 0 → n = 0)
      · have h2 : ∀ K : Bool → ρ, p108 fail fu K k n s L A = p108_2 fail fu K k L (!decide (s.size = 0)) := fun K => by
          rw [h1]
          by_cases k0 : k = 0
          · rw [neqF k0, cond_false, lssF (by omega), cond_false, gtrF (by omega), cond_false, neqT k2, cond_true, nscmp_nil]
          · rw [neqT k0, cond_true, neqF (hn.2.2 k0), cond_false, lssF (by omega), cond_false, gtrF (by omega), cond_false, neqT k2, cond_true, nscmp_nil]
        by_cases s0 : s.size = 0
        · have h3 : ∀ K : Bool → ρ, p108 fail fu K k n s L A = (bif (cmpStd .eql k 1) then (bif (cmpStd .eql ((L.length : Nat) : Int) 1) then (K true) else (K false)) else (K (cmpStd .eql ((L.length : Nat) : Int) 0))) := fun K => by
            rw [h2, decide_eq_true s0, Bool.not_true, p108_2, cond_false, eqlF k2, cond_false]; rfl
          by_cases k1 : k = 1
          · by_cases l1 : L.length = 1
            · refine ⟨true, fun K => ?_, fun _ => .inr (.inl ⟨k1, hn.2.2 (by omega), s0, l1, by omega⟩)⟩
              dsimp only
              rw [h3, eqlT k1, cond_true, eqlT (by omega), cond_true]
            · refine ⟨false, fun K => ?_, fun h => by cases h⟩
              dsimp only
              rw [h3, eqlT k1, cond_true, eqlF (by omega), cond_false]
          · by_cases l0 : L.length = 0
            · refine ⟨true, fun K => ?_, fun _ => ?_⟩
              · dsimp only
                rw [h3, eqlF k1, cond_false, eqlT (by omega)]
              · by_cases k0 : k = 0
                · exact .inl ⟨k0, hn.1, hn.2.1, s0, l0, by omega⟩
                · refine .inr (.inr (.inr ⟨by omega, by omega, hn.2.2 k0, s0, l0, ?_⟩))
                  rcases hk with ⟨_, h⟩ | ⟨h, h'⟩ | ⟨h, h'⟩ | h
                  · omega
                  · have : k.toNat ≠ 6 := by omega
                    unfold tmN; rw [if_neg this]; omega
                  · have : k.toNat = 6 := by omega
                    unfold tmN; rw [if_pos this]; omega
                  · omega
            · refine ⟨false, fun K => ?_, fun h => by cases h⟩
              dsimp only
              rw [h3, eqlF k1, cond_false, eqlF (by omega)]
        · refine ⟨false, fun K => ?_, fun h => by cases h⟩
          dsimp only
          rw [h2, decide_eq_false s0, Bool.not_false, bad]
      · refine ⟨false, fun K => ?_, fun h => by cases h⟩
        dsimp only
        rw [h1]
        by_cases k0 : k = 0
        · rw [neqF k0, cond_false]
          by_cases m1 : n < 0
          · rw [lssT m1, cond_true, bad]
          · rw [lssF (by omega), cond_false, gtrT (by omega), cond_true, bad]
        · rw [neqT k0, cond_true]
          by_cases n0 : n = 0
          · exact absurd ⟨by omega, by omega, fun _ => n0⟩ hn
          · rw [neqT n0, cond_true, bad]
  · refine ⟨false, fun K => ?_, fun h => by cases h⟩
    dsimp only
    rw [p108, ha, neqT c1, cond_true, bad]
mutual
/-- Each part has its form. -/
def Tm.whole : Tm → Prop
  | .mk k n s l a => PartOk k n s l.length a.length ∧ Tm.wholes a
def Tm.wholes : List Tm → Prop
  | [] => True
  | a :: l => Tm.whole a ∧ Tm.wholes l
end
theorem partOk_args {k n : Int} {s : ByteArray} {ll al : Nat} (h : PartOk k n s ll al) : al ≤ 3 := by
  rcases h with h | h | h | h
  · omega
  · omega
  · omega
  · have : tmN k.toNat ≤ 3 := by unfold tmN; split <;> omega
    omega
/-- How many parts are left. -/
theorem whole_may {ρ : Type} (fail : ρ) : ∀ (left : Nat), left ≤ 2000 → ∀ (fu : Nat) (t : Tm), left + 10 ≤ fu →
    ∃ w : Option Nat, (∀ K : Int → Bool → ρ, p59 fail fu K t.k t.n t.nm (Lv.rows t.ls) (Tm.rows t.args) (left : Nat) = match w with | some q => K (q : Nat) true | none => K (-1) false) ∧ ∀ q, w = some q → t.parts + q = left ∧ t.whole := by
  intro left
  induction left using Nat.strongRecOn with
  | ind left ih =>
    intro hl2 fu t hf
    obtain ⟨k, n, s, l, a⟩ := t
    obtain ⟨m, rfl⟩ : ∃ m, fu = m + 1 := ⟨fu - 1, by omega⟩
    simp only [Tm.k, Tm.n, Tm.nm, Tm.ls, Tm.args]
    have hsub : binStd .sub .i64 ((left : Nat) : Int) 1 = ((left : Nat) : Int) - 1 := subZ (by omega) (by omega)
    by_cases h0 : left = 0
    · refine ⟨none, fun K => ?_, fun q h => by cases h⟩
      rw [p59, p59_b, hsub, lssT (by omega), cond_true, p59_2, cond_true]
    · obtain ⟨b, hb, hb2⟩ := part_may fail m k n s (Lv.rows l) (Tm.rows a)
      dsimp only at hb
      rw [Lv.rows_len, Tm.rows_len] at hb2
      generalize hs : p59 fail m = sf
      have h1 : ∀ K : Int → Bool → ρ, p59 fail (m + 1) K k n s (Lv.rows l) (Tm.rows a) (left : Nat) = p59_2 fail m sf K (Tm.rows a) ((left - 1 : Nat) : Int) (!b) := fun K => by
        rw [p59, p59_b, hs, hsub, lssF (by omega), cond_false, hb, show ((left : Nat) : Int) - 1 = ((left - 1 : Nat) : Int) by omega]
      cases b with
      | false =>
        refine ⟨none, fun K => ?_, fun q h => by cases h⟩
        rw [h1, p59_2, Bool.not_false, cond_true]
      | true =>
        have hpo := hb2 rfl
        have ha3 := partOk_args hpo
        have loop : ∀ (r i j lf : Nat), i + r = a.length → r < j → lf ≤ left - 1 → ∃ w : Option Nat, (∀ K : Int → Bool → ρ, p59_1L fail m sf K (Tm.rows a) j ((lf : Nat) : Int) ((i : Nat) : Int) = match w with | some q => K (q : Nat) true | none => K (-1) false) ∧ ∀ q, w = some q → Tm.partss (a.drop i) + q = lf ∧ Tm.wholes (a.drop i) := by
          intro r
          induction r with
          | zero =>
            intro i j lf hi hj hlf
            obtain ⟨j, rfl⟩ : ∃ j', j = j' + 1 := ⟨j - 1, by omega⟩
            refine ⟨some lf, fun K => ?_, fun q h => ?_⟩
            · rw [p59_1L, p59_1, Tm.rows_len, lssF (by omega), cond_false]
            · injection h with h
              rw [List.drop_eq_nil_of_le (by omega)]
              exact ⟨by simp [Tm.partss, h], trivial⟩
          | succ r ihr =>
            intro i j lf hi hj hlf
            obtain ⟨j, rfl⟩ : ∃ j', j = j' + 1 := ⟨j - 1, by omega⟩
            have hlt : i < a.length := by omega
            have hd : a.drop i = a[i] :: a.drop (i + 1) := List.drop_eq_getElem_cons hlt
            obtain ⟨w, hw, hw2⟩ := ih lf (by omega) (by omega) m a[i] (by omega)
            rw [hs] at hw
            have h2 : ∀ K : Int → Bool → ρ, p59_1L fail m sf K (Tm.rows a) (j + 1) ((lf : Nat) : Int) ((i : Nat) : Int) = match w with | some q => p59_1L fail m sf K (Tm.rows a) j ((q : Nat) : Int) ((i + 1 : Nat) : Int) | none => K (-1) false := fun K => by
              rw [p59_1L, p59_1, Tm.rows_len, lssT (by omega), cond_true, gd_y (by omega), gd_y (by omega), tm_row fail a i hlt, hw]
              cases w with
              | none => simp only [Bool.not_false, cond_true]
              | some q => simp only [Bool.not_true, cond_false]; rw [addZ (by omega) (by omega), show ((i : Nat) : Int) + 1 = ((i + 1 : Nat) : Int) by omega]
            cases w with
            | none => exact ⟨none, fun K => h2 K, fun q h => by cases h⟩
            | some q =>
              obtain ⟨g1, g2⟩ := hw2 q rfl
              obtain ⟨w', hw', hw2'⟩ := ihr (i + 1) j q (by omega) (by omega) (by omega)
              refine ⟨w', fun K => (h2 K).trans (hw' K), fun q' hq => ?_⟩
              obtain ⟨g3, g4⟩ := hw2' q' hq
              rw [hd]
              exact ⟨by simp only [Tm.partss]; omega, g2, g4⟩
        obtain ⟨w, hw, hw2⟩ := loop a.length 0 m (left - 1) (by omega) (by omega) (by omega)
        refine ⟨w, fun K => ?_, fun q hq => ?_⟩
        · rw [h1, p59_2, Bool.not_true, cond_false]; exact hw K
        · obtain ⟨g1, g2⟩ := hw2 q hq
          rw [List.drop_zero] at g1 g2
          exact ⟨by simp only [Tm.parts]; omega, hpo, g2⟩
theorem Tm.wholes_mem : ∀ {l : List Tm} {a : Tm}, Tm.wholes l → a ∈ l → a.whole
  | b :: l, a, h, ha => by
    rcases List.mem_cons.1 ha with rfl | ha
    · exact h.1
    · exact Tm.wholes_mem h.2 ha
/-- How deep a term is, at most. -/
def Tm.dep : Nat → Tm → Prop
  | 0, _ => False
  | d + 1, .mk _ _ _ _ a => ∀ b ∈ a, Tm.dep d b
theorem depth_may {ρ : Type} (fail : ρ) : ∀ (most : Nat), most ≤ 100 → ∀ (fu : Nat) (t : Tm), most + 10 ≤ fu → t.whole →
    ∃ d : Nat, (∀ K : Int → ρ, p60 fail fu K t.k t.n t.nm (Lv.rows t.ls) (Tm.rows t.args) (most : Nat) = K (d : Nat)) ∧ d ≤ most + 1 ∧ (d ≤ most → t.dep most) := by
  intro most
  induction most with
  | zero =>
    intro _ fu t hf hw
    obtain ⟨m, rfl⟩ : ∃ m, fu = m + 1 := ⟨fu - 1, by omega⟩
    refine ⟨1, fun K => ?_, by omega, fun h => absurd h (by omega)⟩
    rw [p60, p60_b, show (if (0 : Int) > ((0 : Nat) : Int) then 0 else ((0 : Nat) : Int)) = 0 from rfl, eqlT rfl, cond_true]; rfl
  | succ most ih =>
    intro hm fu t hf hw
    obtain ⟨k, n, s, l, a⟩ := t
    obtain ⟨m, rfl⟩ : ∃ m, fu = m + 1 := ⟨fu - 1, by omega⟩
    simp only [Tm.k, Tm.n, Tm.nm, Tm.ls, Tm.args]
    have ha3 := partOk_args hw.1
    generalize hs : p60 fail m = sf
    have hif : (if (0 : Int) > ((most + 1 : Nat) : Int) then 0 else ((most + 1 : Nat) : Int)) = ((most + 1 : Nat) : Int) := if_neg (by omega)
    have loop : ∀ (r i j z : Nat), i + r = a.length → r < j → z ≤ most + 1 → ∃ d : Nat, (∀ K : Int → ρ, p60_1L fail m sf K (Tm.rows a) j ((most + 1 : Nat) : Int) ((z : Nat) : Int) ((i : Nat) : Int) = K ((d + 1 : Nat) : Int)) ∧ d ≤ most + 1 ∧ z ≤ d ∧ (d ≤ most → ∀ b ∈ a.drop i, b.dep most) := by
      intro r
      induction r with
      | zero =>
        intro i j z hi hj hz
        obtain ⟨j, rfl⟩ : ∃ j', j = j' + 1 := ⟨j - 1, by omega⟩
        refine ⟨z, fun K => ?_, hz, Nat.le_refl _, fun _ b hb => ?_⟩
        · rw [p60_1L, p60_1, Tm.rows_len, lssF (by omega), cond_false, addZ (by omega) (by omega)]; rfl
        · rw [List.drop_eq_nil_of_le (by omega)] at hb; simp at hb
      | succ r ihr =>
        intro i j z hi hj hz
        obtain ⟨j, rfl⟩ : ∃ j', j = j' + 1 := ⟨j - 1, by omega⟩
        have hlt : i < a.length := by omega
        have hd : a.drop i = a[i] :: a.drop (i + 1) := List.drop_eq_getElem_cons hlt
        obtain ⟨d1, h1, h2, h3⟩ := ih (by omega) m a[i] (by omega) (Tm.wholes_mem hw.2 (List.getElem_mem hlt))
        rw [hs] at h1
        have hmax : ∀ K : Int → ρ, p60_1L fail m sf K (Tm.rows a) (j + 1) ((most + 1 : Nat) : Int) ((z : Nat) : Int) ((i : Nat) : Int) = p60_1L fail m sf K (Tm.rows a) j ((most + 1 : Nat) : Int) ((max z d1 : Nat) : Int) ((i + 1 : Nat) : Int) := fun K => by
          rw [p60_1L, p60_1, Tm.rows_len, lssT (by omega), cond_true, gd_y (by omega), gd_y (by omega), tm_row fail a i hlt, subZ (by omega) (by omega), show ((most + 1 : Nat) : Int) - 1 = ((most : Nat) : Int) by omega, h1, addZ (by omega) (by omega), show ((i : Nat) : Int) + 1 = ((i + 1 : Nat) : Int) by omega]
          congr 1
          split <;> omega
        obtain ⟨d, g1, g2, g3, g4⟩ := ihr (i + 1) j (max z d1) (by omega) (by omega) (by omega)
        refine ⟨d, fun K => (hmax K).trans (g1 K), g2, by omega, fun hdm b hb => ?_⟩
        rw [hd] at hb
        rcases List.mem_cons.1 hb with rfl | hb
        · exact h3 (by omega)
        · exact g4 hdm b hb
    obtain ⟨d, g1, g2, g3, g4⟩ := loop a.length 0 m 0 (by omega) (by omega) (by omega)
    refine ⟨d + 1, fun K => ?_, by omega, fun h b hb => g4 (by omega) b (by simpa using hb)⟩
    rw [p60, p60_b, hs, hif, eqlF (by omega), cond_false]; exact g1 K
-- ---------------------------------------------------------------- levels
theorem largs_any {ρ : Type} (fail : ρ) (fu : Nat) (k : Int) : ∃ a : Int, (∀ K : Int → ρ, p138 fail fu K k = K a) ∧ ((0 ≤ k ∧ k ≤ 4 ∧ a = ((if k = 4 then 0 else lvN k.toNat : Nat) : Int)) ∨ a = -1) := by
  by_cases h : 0 ≤ k ∧ k ≤ 4
  · obtain ⟨n, rfl⟩ : ∃ n : Nat, k = n := ⟨k.toNat, by omega⟩
    have : n = 0 ∨ n = 1 ∨ n = 2 ∨ n = 3 ∨ n = 4 := by omega
    rcases this with rfl | rfl | rfl | rfl | rfl
    · exact ⟨0, fun K => rfl, .inl ⟨by omega, by omega, rfl⟩⟩
    · exact ⟨1, fun K => rfl, .inl ⟨by omega, by omega, rfl⟩⟩
    · exact ⟨2, fun K => rfl, .inl ⟨by omega, by omega, rfl⟩⟩
    · exact ⟨2, fun K => rfl, .inl ⟨by omega, by omega, rfl⟩⟩
    · exact ⟨0, fun K => rfl, .inl ⟨by omega, by omega, rfl⟩⟩
  · refine ⟨-1, fun K => ?_, .inr rfl⟩
    rw [p138, eqlF (by omega), cond_false, eqlF (by omega), p138_2, cond_false, eqlF (by omega), cond_false, eqlF (by omega), cond_false, eqlF (by omega), p138_1, cond_false]
theorem lwhole_may {ρ : Type} (fail : ρ) : ∀ (d : Nat), d ≤ 32 → ∀ (fu : Nat) (l : Lv), d + 10 ≤ fu → BO (fun K : Bool → ρ => p112 fail fu K l.k l.n (Lv.rows l.args) 4 ((33 - d : Nat) : Int)) (l.good d) := by
  intro d
  induction d with
  | zero =>
    intro _ fu l hf
    obtain ⟨m, rfl⟩ : ∃ m, fu = m + 1 := ⟨fu - 1, by omega⟩
    refine ⟨false, fun K => ?_, fun h => by cases h⟩
    dsimp only
    rw [p112, p112_b, gtrT (by omega), cond_true, p112_3, cond_true]
  | succ d ih =>
    intro hd fu l hf
    obtain ⟨k, n, l⟩ := l
    obtain ⟨m, rfl⟩ : ∃ m, fu = m + 1 := ⟨fu - 1, by omega⟩
    simp only [Lv.k, Lv.n, Lv.args]
    obtain ⟨a, ha, hk⟩ := largs_any fail m k
    generalize hs : p112 fail m = sf
    have hdd : binStd .add .i64 ((33 - (d + 1) : Nat) : Int) 1 = ((33 - d : Nat) : Int) := by rw [addZ (by omega) (by omega)]; omega
    have h1 : ∀ K : Bool → ρ, p112 fail (m + 1) K k n (Lv.rows l) 4 ((33 - (d + 1) : Nat) : Int) = p112_3 fail m sf K k n (Lv.rows l) 4 ((33 - (d + 1) : Nat) : Int) (cmpStd .neq a ((l.length : Nat) : Int)) := fun K => by
      rw [p112, p112_b, hs, gtrF (by omega), cond_false, ha, Lv.rows_len]
    generalize hd0 : ((33 - (d + 1) : Nat) : Int) = dd at h1 hdd
    by_cases c1 : a = ((l.length : Nat) : Int)
    · have hkk : 0 ≤ k ∧ k ≤ 4 ∧ a = ((if k = 4 then 0 else lvN k.toNat : Nat) : Int) := by
        rcases hk with h | h
        · exact h
        · omega
      have hl2 : l.length ≤ 2 := by
        obtain ⟨_, _, h⟩ := hkk
        have : (if k = 4 then 0 else lvN k.toNat) ≤ 2 := by
          split
          · omega
          · unfold lvN; split
            · omega
            · split
              · omega
              · split <;> omega
        omega
      have loop : ∀ (r i j : Nat), i + r = l.length → r < j → ∃ b, (∀ K : Bool → ρ, p112_1L fail m sf K (Lv.rows l) 4 dd j ((i : Nat) : Int) = K b) ∧ (b = true → ∀ x ∈ l.drop i, x.good d) := by
        intro r
        induction r with
        | zero =>
          intro i j hi hj
          obtain ⟨j, rfl⟩ : ∃ j', j = j' + 1 := ⟨j - 1, by omega⟩
          refine ⟨true, fun K => ?_, fun _ x hx => ?_⟩
          · rw [p112_1L, p112_1, Lv.rows_len, lssF (by omega), cond_false]
          · rw [List.drop_eq_nil_of_le (by omega)] at hx; simp at hx
        | succ r ihr =>
          intro i j hi hj
          obtain ⟨j, rfl⟩ : ∃ j', j = j' + 1 := ⟨j - 1, by omega⟩
          have hlt : i < l.length := by omega
          have hdr : l.drop i = l[i] :: l.drop (i + 1) := List.drop_eq_getElem_cons hlt
          obtain ⟨b, hb, hb2⟩ := ih (by omega) m l[i] (by omega)
          dsimp only at hb
          rw [hs] at hb
          have h2 : ∀ K : Bool → ρ, p112_1L fail m sf K (Lv.rows l) 4 dd (j + 1) ((i : Nat) : Int) = bif (!b) then K false else p112_1L fail m sf K (Lv.rows l) 4 dd j ((i + 1 : Nat) : Int) := fun K => by
            rw [p112_1L, p112_1, Lv.rows_len, lssT (by omega), cond_true, gd_y (by omega), gd_y (by omega), lv_row fail l i hlt, hdd, hb, addZ (by omega) (by omega), show ((i : Nat) : Int) + 1 = ((i + 1 : Nat) : Int) by omega]
          cases b with
          | false => exact ⟨false, fun K => h2 K, fun h => by cases h⟩
          | true =>
            obtain ⟨b', g1, g2⟩ := ihr (i + 1) j (by omega) (by omega)
            refine ⟨b', fun K => (h2 K).trans (g1 K), fun hb' x hx => ?_⟩
            rw [hdr] at hx
            rcases List.mem_cons.1 hx with rfl | hx
            · exact hb2 rfl
            · exact g2 hb' x hx
      obtain ⟨b, g1, g2⟩ := loop l.length 0 m (by omega) (by omega)
      have h3 : ∀ K : Bool → ρ, p112_2 fail m sf K (Lv.rows l) 4 dd false = K b := fun K => by rw [p112_2, cond_false]; exact g1 K
      have h3t : ∀ K : Bool → ρ, p112_2 fail m sf K (Lv.rows l) 4 dd true = K false := fun K => by rw [p112_2, cond_true]
      by_cases k4 : k = 4
      · have hl0 : l = [] := by
          have := hkk.2.2; rw [if_pos k4] at this
          exact List.length_eq_zero_iff.1 (by omega)
        by_cases hn : 0 ≤ n ∧ n < 4
        · refine ⟨b, fun K => ?_, fun hb => ⟨.inl ⟨k4, hn.1, hn.2, hl0⟩, fun x hx => g2 hb x (by simpa using hx)⟩⟩
          dsimp only
          rw [h1, neqF c1, p112_3, cond_false, eqlT k4, cond_true, lssF (by omega), cond_false, geqF (by omega), cond_false, h3]
        · refine ⟨false, fun K => ?_, fun h => by cases h⟩
          dsimp only
          rw [h1, neqF c1, p112_3, cond_false, eqlT k4, cond_true]
          by_cases n0 : n < 0
          · rw [lssT n0, cond_true, h3t]
          · rw [lssF (by omega), cond_false, geqT (by omega), cond_true, h3t]
      · by_cases n0 : n = 0
        · refine ⟨b, fun K => ?_, fun hb => ⟨.inr ⟨hkk.1, by omega, n0, ?_⟩, fun x hx => g2 hb x (by simpa using hx)⟩⟩
          · dsimp only
            rw [h1, neqF c1, p112_3, cond_false, eqlF k4, cond_false, neqF n0, h3]
          · have := hkk.2.2; rw [if_neg k4] at this; omega
        · refine ⟨false, fun K => ?_, fun h => by cases h⟩
          dsimp only
          rw [h1, neqF c1, p112_3, cond_false, eqlF k4, cond_false, neqT n0, h3t]
    · refine ⟨false, fun K => ?_, fun h => by cases h⟩
      dsimp only
      rw [h1, neqT c1, p112_3, cond_true]
theorem Lv.partss_cons (a : Lv) (l : List Lv) : Lv.partss (a :: l) = a.parts + Lv.partss l := rfl
/-- How many parts a level has. -/
theorem parts_may {ρ : Type} (fail : ρ) : ∀ (most : Nat), most ≤ 64 → ∀ (fu : Nat) (l : Lv), most + 80 ≤ fu → ∃ n : Nat, (∀ K : Int → ρ, p111 fail fu K l.k l.n (Lv.rows l.args) (most : Nat) = K (n : Nat)) ∧ 1 ≤ n ∧ n ≤ most + 1 ∧ (n ≤ most → l.parts = n) := by
  intro most
  induction most using Nat.strongRecOn with
  | ind most ih =>
    intro hm fu l hf
    obtain ⟨k, n0, l⟩ := l
    obtain ⟨m, rfl⟩ : ∃ m, fu = m + 1 := ⟨fu - 1, by omega⟩
    simp only [Lv.k, Lv.n, Lv.args]
    generalize hs : p111 fail m = sf
    have hmost1 : binStd .add .i64 ((most : Nat) : Int) 1 = ((most + 1 : Nat) : Int) := by rw [addZ (by omega) (by omega)]; omega
    have loop : ∀ (r i j n : Nat), i ≤ l.length → most + 2 ≤ n + r → r < j → 1 ≤ n → n ≤ most + 1 → i + 1 ≤ n → ∃ q : Nat, (∀ K : Int → ρ, p111_2L fail m sf K (Lv.rows l) ((most : Nat) : Int) j ((n : Nat) : Int) ((i : Nat) : Int) = K ((q : Nat) : Int)) ∧ n ≤ q ∧ q ≤ most + 1 ∧ (q ≤ most → q = n + Lv.partss (l.drop i)) := by
      intro r
      induction r with
      | zero =>
        intro i j n hi hr hj hn1 hn2 _
        omega
      | succ r ihr =>
        intro i j n hi hr hj hn1 hn2 hi2
        obtain ⟨j, rfl⟩ : ∃ j', j = j' + 1 := ⟨j - 1, by omega⟩
        have hend : ∀ K : Int → ρ, p111_1 fail m sf K (p111_2L fail m sf K (Lv.rows l) ((most : Nat) : Int) j) (Lv.rows l) ((most : Nat) : Int) ((n : Nat) : Int) ((i : Nat) : Int) false = K ((n : Nat) : Int) := fun K => by
          rw [p111_1, cond_false, hmost1, if_neg (by omega)]
        by_cases hlt : i < l.length
        · by_cases hnm : n ≤ most
          · have hdr : l.drop i = l[i] :: l.drop (i + 1) := List.drop_eq_getElem_cons hlt
            obtain ⟨y, hy, y1, y2, y3⟩ := ih (most - n) (by omega) (by omega) m l[i] (by omega)
            rw [hs] at hy
            have h2 : ∀ K : Int → ρ, p111_2L fail m sf K (Lv.rows l) ((most : Nat) : Int) (j + 1) ((n : Nat) : Int) ((i : Nat) : Int) = p111_2L fail m sf K (Lv.rows l) ((most : Nat) : Int) j ((n + y : Nat) : Int) ((i + 1 : Nat) : Int) := fun K => by
              rw [p111_2L, p111_2, Lv.rows_len, lssT (by omega), cond_true, leqT (by omega), p111_1, cond_true, gd_y (by omega), gd_y (by rw [Lv.rows_len]; omega), lv_row fail l i hlt, subZ (by omega) (by omega), show ((most : Nat) : Int) - ((n : Nat) : Int) = ((most - n : Nat) : Int) by omega, hy, addZ (by omega) (by omega), addZ (by omega) (by omega), show ((i : Nat) : Int) + 1 = ((i + 1 : Nat) : Int) by omega, show ((n : Nat) : Int) + ((y : Nat) : Int) = ((n + y : Nat) : Int) by omega]
            obtain ⟨q, g1, g2, g3, g4⟩ := ihr (i + 1) j (n + y) (by omega) (by omega) (by omega) (by omega) (by omega) (by omega)
            refine ⟨q, fun K => (h2 K).trans (g1 K), by omega, g3, fun hq => ?_⟩
            have h5 := y3 (by omega)
            have h6 := g4 hq
            rw [hdr, Lv.partss_cons]; omega
          · refine ⟨n, fun K => ?_, Nat.le_refl _, hn2, fun h => absurd h hnm⟩
            rw [p111_2L, p111_2, Lv.rows_len, lssT (by omega), cond_true, leqF (by omega)]; exact hend K
        · refine ⟨n, fun K => ?_, Nat.le_refl _, hn2, fun _ => ?_⟩
          · rw [p111_2L, p111_2, Lv.rows_len, lssF (by omega), cond_false]; exact hend K
          · rw [List.drop_eq_nil_of_le (by omega)]; rfl
    obtain ⟨q, g1, g2, g3, g4⟩ := loop (most + 1) 0 m 1 (by omega) (by omega) (by omega) (by omega) (by omega) (by omega)
    refine ⟨q, fun K => ?_, g2, g3, fun h => ?_⟩
    · rw [p111, p111_b, hs]; exact g1 K
    · have := g4 h; rw [List.drop_zero] at this; simp only [Lv.parts]; omega
theorem lmay {ρ : Type} (fail : ρ) (fu : Nat) (hf : 200 ≤ fu) (l : Lv) : BO (fun K : Bool → ρ => p69 fail fu K l.k l.n (Lv.rows l.args) 4) (l.good 32 ∧ l.parts ≤ 64) := by
  obtain ⟨n, h1, h2, h3, h4⟩ := parts_may fail 64 (by omega) fu l (by omega)
  obtain ⟨b, g1, g2⟩ := lwhole_may fail 32 (by omega) fu l (by omega)
  dsimp only at g1
  have hm : ∀ K : Bool → ρ, p69 fail fu K l.k l.n (Lv.rows l.args) 4 = p111 fail fu (fun y2 => bif (cmpStd .leq y2 64) then (p112 fail fu (fun y3 => p69_1 fail fu K y3) l.k l.n (Lv.rows l.args) 4 1) else (p69_1 fail fu K false)) l.k l.n (Lv.rows l.args) 64 := fun K => rfl
  by_cases c : n ≤ 64
  · refine ⟨b, fun K => ?_, fun hb => ⟨g2 hb, by have := h4 c; omega⟩⟩
    dsimp only
    rw [hm, show (64 : Int) = ((64 : Nat) : Int) from rfl, h1, leqT (by omega), cond_true, show (1 : Int) = ((33 - 32 : Nat) : Int) from rfl, g1, p69_1]
  · refine ⟨false, fun K => ?_, fun h => by cases h⟩
    dsimp only
    rw [hm, show (64 : Int) = ((64 : Nat) : Int) from rfl, h1, leqF (by omega), cond_false, p69_1]
end Go.Proofs.Ythncmjlcmlmnmaa

namespace Go.Proofs.Ythncmjlcmlmnmaa
open Go V
set_option maxRecDepth 100000
set_option maxHeartbeats 2000000
/-- A walk over a row: each element's check, or false. -/
theorem may_levels {ρ : Type} (fail : ρ) : ∀ (d : Nat), d ≤ 100 → ∀ (fu : Nat) (t : Tm), d + 220 ≤ fu → t.whole → t.dep d → BO (fun K : Bool → ρ => p61 fail fu K t.k t.n t.nm (Lv.rows t.ls) (Tm.rows t.args)) (∃ P : Tm → Prop, P t ∧ ∀ u, P u → u.ls.length ≤ 4 ∧ (∀ l ∈ u.ls, l.good 32 ∧ l.parts ≤ 64) ∧ ∀ v ∈ u.args, P v) := by
  intro d
  induction d with
  | zero => intro _ fu t _ _ hd; exact hd.elim
  | succ d ih =>
    intro hd fu t hf hw hdep
    obtain ⟨k, n, s, l, a⟩ := t
    obtain ⟨m, rfl⟩ : ∃ m, fu = m + 1 := ⟨fu - 1, by omega⟩
    simp only [Tm.k, Tm.n, Tm.nm, Tm.ls, Tm.args]
    have ha3 := partOk_args hw.1
    generalize hs : p61 fail m = sf
    by_cases c4 : l.length ≤ 4
    · have loopA : ∀ (r i j : Nat), i + r = a.length → r < j → BO (fun K : Bool → ρ => p61_1L fail m sf K (Tm.rows a) j ((i : Nat) : Int)) (∀ v ∈ a.drop i, ∃ P : Tm → Prop, P v ∧ ∀ u, P u → u.ls.length ≤ 4 ∧ (∀ l ∈ u.ls, l.good 32 ∧ l.parts ≤ 64) ∧ ∀ v ∈ u.args, P v) := by
        intro r
        induction r with
        | zero =>
          intro i j hi hj
          obtain ⟨j, rfl⟩ : ∃ j', j = j' + 1 := ⟨j - 1, by omega⟩
          refine ⟨true, fun K => ?_, fun _ x hx => ?_⟩
          · dsimp only; rw [p61_1L, p61_1, Tm.rows_len, lssF (by omega), cond_false]
          · rw [List.drop_eq_nil_of_le (by omega)] at hx; simp at hx
        | succ r ihr =>
          intro i j hi hj
          obtain ⟨j, rfl⟩ : ∃ j', j = j' + 1 := ⟨j - 1, by omega⟩
          have hlt : i < a.length := by omega
          have hdr : a.drop i = a[i] :: a.drop (i + 1) := List.drop_eq_getElem_cons hlt
          obtain ⟨b, hb, hb2⟩ := ih (by omega) m a[i] (by omega) (Tm.wholes_mem hw.2 (List.getElem_mem hlt)) (hdep _ (List.getElem_mem hlt))
          dsimp only at hb
          rw [hs] at hb
          have h2 : ∀ K : Bool → ρ, p61_1L fail m sf K (Tm.rows a) (j + 1) ((i : Nat) : Int) = bif (!b) then K false else p61_1L fail m sf K (Tm.rows a) j ((i + 1 : Nat) : Int) := fun K => by
            rw [p61_1L, p61_1, Tm.rows_len, lssT (by omega), cond_true, gd_y (by omega), gd_y (by omega), tm_row fail a i hlt, hb, addZ (by omega) (by omega), show ((i : Nat) : Int) + 1 = ((i + 1 : Nat) : Int) by omega]
          cases b with
          | false => exact ⟨false, fun K => h2 K, fun h => by cases h⟩
          | true =>
            obtain ⟨b', g1, g2⟩ := ihr (i + 1) j (by omega) (by omega)
            refine ⟨b', fun K => (h2 K).trans (g1 K), fun hb' x hx => ?_⟩
            rw [hdr] at hx
            rcases List.mem_cons.1 hx with rfl | hx
            · exact hb2 rfl
            · exact g2 hb' x hx
      obtain ⟨bA, gA1, gA2⟩ := loopA a.length 0 m (by omega) (by omega)
      dsimp only at gA1
      have loopL : ∀ (r i j : Nat), i + r = l.length → r < j → BO (fun K : Bool → ρ => p61_2L fail m sf K (Lv.rows l) (Tm.rows a) j ((i : Nat) : Int)) ((∀ x ∈ l.drop i, x.good 32 ∧ x.parts ≤ 64) ∧ bA = true) := by
        intro r
        induction r with
        | zero =>
          intro i j hi hj
          obtain ⟨j, rfl⟩ : ∃ j', j = j' + 1 := ⟨j - 1, by omega⟩
          refine ⟨bA, fun K => ?_, fun h => ⟨fun x hx => ?_, h⟩⟩
          · dsimp only; rw [p61_2L, p61_2, Lv.rows_len, lssF (by omega), cond_false]; exact gA1 K
          · rw [List.drop_eq_nil_of_le (by omega)] at hx; simp at hx
        | succ r ihr =>
          intro i j hi hj
          obtain ⟨j, rfl⟩ : ∃ j', j = j' + 1 := ⟨j - 1, by omega⟩
          have hlt : i < l.length := by omega
          have hdr : l.drop i = l[i] :: l.drop (i + 1) := List.drop_eq_getElem_cons hlt
          obtain ⟨b, hb, hb2⟩ := lmay fail m (by omega) l[i]
          dsimp only at hb
          have h2 : ∀ K : Bool → ρ, p61_2L fail m sf K (Lv.rows l) (Tm.rows a) (j + 1) ((i : Nat) : Int) = bif (!b) then K false else p61_2L fail m sf K (Lv.rows l) (Tm.rows a) j ((i + 1 : Nat) : Int) := fun K => by
            rw [p61_2L, p61_2, Lv.rows_len, lssT (by omega), cond_true, gd_y (by omega), gd_y (by omega), lv_row fail l i hlt, hb, addZ (by omega) (by omega), show ((i : Nat) : Int) + 1 = ((i + 1 : Nat) : Int) by omega]
          cases b with
          | false => exact ⟨false, fun K => h2 K, fun h => by cases h⟩
          | true =>
            obtain ⟨b', g1, g2⟩ := ihr (i + 1) j (by omega) (by omega)
            refine ⟨b', fun K => (h2 K).trans (g1 K), fun hb' => ⟨fun x hx => ?_, (g2 hb').2⟩⟩
            rw [hdr] at hx
            rcases List.mem_cons.1 hx with rfl | hx
            · exact hb2 rfl
            · exact (g2 hb').1 x hx
      obtain ⟨b, g1, g2⟩ := loopL l.length 0 m (by omega) (by omega)
      dsimp only at g1
      refine ⟨b, fun K => ?_, fun hb => ?_⟩
      · dsimp only
        rw [p61, p61_b, hs, Lv.rows_len, gtrF (by omega), cond_false]; exact g1 K
      · obtain ⟨q1, q2⟩ := g2 hb
        have q3 := gA2 q2
        refine ⟨fun u => u = .mk k n s l a ∨ ∃ v ∈ a, ∃ P : Tm → Prop, P v ∧ (∀ u, P u → u.ls.length ≤ 4 ∧ (∀ l ∈ u.ls, l.good 32 ∧ l.parts ≤ 64) ∧ ∀ v ∈ u.args, P v) ∧ P u, .inl rfl, ?_⟩
        rintro u (rfl | ⟨v, hv, P, hP1, hP2, hP3⟩)
        · refine ⟨c4, fun x hx => q1 x (by simpa using hx), fun v hv => ?_⟩
          obtain ⟨P, p1, p2⟩ := q3 v (by simpa using hv)
          exact .inr ⟨v, hv, P, p1, p2, p1⟩
        · obtain ⟨r1, r2, r3⟩ := hP2 u hP3
          exact ⟨r1, r2, fun w hw => .inr ⟨v, hv, P, hP1, hP2, r3 w hw⟩⟩
    · refine ⟨false, fun K => ?_, fun h => by cases h⟩
      dsimp only
      rw [p61, p61_b, Lv.rows_len, gtrT (by omega), cond_true]
theorem may_names {ρ : Type} (fail : ρ) : ∀ (d : Nat), d ≤ 100 → ∀ (fu : Nat) (t : Tm), d + 20 ≤ fu → t.whole → t.dep d → BO (fun K : Bool → ρ => p62 fail fu K t.k t.n t.nm (Lv.rows t.ls) (Tm.rows t.args)) (∃ P : Tm → Prop, P t ∧ ∀ u, P u → u.nm.size ≤ 24 ∧ ∀ v ∈ u.args, P v) := by
  intro d
  induction d with
  | zero => intro _ fu t _ _ hd; exact hd.elim
  | succ d ih =>
    intro hd fu t hf hw hdep
    obtain ⟨k, n, s, l, a⟩ := t
    obtain ⟨m, rfl⟩ : ∃ m, fu = m + 1 := ⟨fu - 1, by omega⟩
    simp only [Tm.k, Tm.n, Tm.nm, Tm.ls, Tm.args]
    have ha3 := partOk_args hw.1
    generalize hs : p62 fail m = sf
    by_cases c4 : s.size ≤ 24
    · have loopA : ∀ (r i j : Nat), i + r = a.length → r < j → BO (fun K : Bool → ρ => p62_1L fail m sf K (Tm.rows a) j ((i : Nat) : Int)) (∀ v ∈ a.drop i, ∃ P : Tm → Prop, P v ∧ ∀ u, P u → u.nm.size ≤ 24 ∧ ∀ v ∈ u.args, P v) := by
        intro r
        induction r with
        | zero =>
          intro i j hi hj
          obtain ⟨j, rfl⟩ : ∃ j', j = j' + 1 := ⟨j - 1, by omega⟩
          refine ⟨true, fun K => ?_, fun _ x hx => ?_⟩
          · dsimp only; rw [p62_1L, p62_1, Tm.rows_len, lssF (by omega), cond_false]
          · rw [List.drop_eq_nil_of_le (by omega)] at hx; simp at hx
        | succ r ihr =>
          intro i j hi hj
          obtain ⟨j, rfl⟩ : ∃ j', j = j' + 1 := ⟨j - 1, by omega⟩
          have hlt : i < a.length := by omega
          have hdr : a.drop i = a[i] :: a.drop (i + 1) := List.drop_eq_getElem_cons hlt
          obtain ⟨b, hb, hb2⟩ := ih (by omega) m a[i] (by omega) (Tm.wholes_mem hw.2 (List.getElem_mem hlt)) (hdep _ (List.getElem_mem hlt))
          dsimp only at hb
          rw [hs] at hb
          have h2 : ∀ K : Bool → ρ, p62_1L fail m sf K (Tm.rows a) (j + 1) ((i : Nat) : Int) = bif (!b) then K false else p62_1L fail m sf K (Tm.rows a) j ((i + 1 : Nat) : Int) := fun K => by
            rw [p62_1L, p62_1, Tm.rows_len, lssT (by omega), cond_true, gd_y (by omega), gd_y (by omega), tm_row fail a i hlt, hb, addZ (by omega) (by omega), show ((i : Nat) : Int) + 1 = ((i + 1 : Nat) : Int) by omega]
          cases b with
          | false => exact ⟨false, fun K => h2 K, fun h => by cases h⟩
          | true =>
            obtain ⟨b', g1, g2⟩ := ihr (i + 1) j (by omega) (by omega)
            refine ⟨b', fun K => (h2 K).trans (g1 K), fun hb' x hx => ?_⟩
            rw [hdr] at hx
            rcases List.mem_cons.1 hx with rfl | hx
            · exact hb2 rfl
            · exact g2 hb' x hx
      obtain ⟨b, g1, g2⟩ := loopA a.length 0 m (by omega) (by omega)
      dsimp only at g1
      refine ⟨b, fun K => ?_, fun hb => ?_⟩
      · dsimp only
        rw [p62, p62_b, hs, gtrF (by omega), cond_false]; exact g1 K
      · have q3 := g2 hb
        refine ⟨fun u => u = .mk k n s l a ∨ ∃ v ∈ a, ∃ P : Tm → Prop, P v ∧ (∀ u, P u → u.nm.size ≤ 24 ∧ ∀ v ∈ u.args, P v) ∧ P u, .inl rfl, ?_⟩
        rintro u (rfl | ⟨v, hv, P, hP1, hP2, hP3⟩)
        · refine ⟨c4, fun v hv => ?_⟩
          obtain ⟨P, p1, p2⟩ := q3 v (by simpa using hv)
          exact .inr ⟨v, hv, P, p1, p2, p1⟩
        · obtain ⟨r1, r3⟩ := hP2 u hP3
          exact ⟨r1, fun w hw => .inr ⟨v, hv, P, hP1, hP2, r3 w hw⟩⟩
    · refine ⟨false, fun K => ?_, fun h => by cases h⟩
      dsimp only
      rw [p62, p62_b, gtrT (by omega), cond_true]
theorem good_of {P Q : Tm → Prop} (hP : ∀ u, P u → u.ls.length ≤ 4 ∧ (∀ l ∈ u.ls, l.good 32 ∧ l.parts ≤ 64) ∧ ∀ v ∈ u.args, P v) (hQ : ∀ u, Q u → u.nm.size ≤ 24 ∧ ∀ v ∈ u.args, Q v) : ∀ (d : Nat) (t : Tm), t.whole → t.dep d → P t → Q t → t.good d
  | 0, _, _, h, _, _ => h
  | d + 1, .mk k n s l a, hw, hd, hp, hq => by
    obtain ⟨p1, p2, p3⟩ := hP _ hp
    obtain ⟨q1, q2⟩ := hQ _ hq
    refine ⟨?_, p2, fun b hb => good_of hP hQ d b (Tm.wholes_mem hw.2 hb) (hd b hb) (p3 b hb) (q2 b hb)⟩
    rcases hw.1 with ⟨h1, h2, h3, h4, h5, h6⟩ | ⟨h1, h2, h3, h4, h5⟩ | ⟨h1, h2, h3⟩ | ⟨h1, h2, h3, h4, h5, h6⟩
    · exact .inl ⟨h1, h2, h3, h4, List.length_eq_zero_iff.1 h5, List.length_eq_zero_iff.1 h6⟩
    · exact .inr (.inl ⟨h1, h2, h3, h4, List.length_eq_zero_iff.1 h5⟩)
    · exact .inr (.inr (.inl ⟨h1, h2, q1, p1, List.length_eq_zero_iff.1 h3⟩))
    · exact .inr (.inr (.inr ⟨h1, h2, h3, h4, List.length_eq_zero_iff.1 h5, h6⟩))
/-- The guard: such terms as may be written, and read again. -/
theorem mayTerm_eq {ρ : Type} (fail : ρ) (fu : Nat) (hf : 3000 ≤ fu) (t : Tm) : BO (fun K : Bool → ρ => p16 fail fu K t.k t.n t.nm (Lv.rows t.ls) (Tm.rows t.args)) (t.good 100 ∧ t.parts ≤ 2000) := by
  obtain ⟨w, hw, hw2⟩ := whole_may fail 2000 (by omega) fu t (by omega)
  have e2000 : (2000 : Int) = ((2000 : Nat) : Int) := rfl
  have e100 : (100 : Int) = ((100 : Nat) : Int) := rfl
  cases w with
  | none =>
    refine ⟨false, fun K => ?_, fun h => by cases h⟩
    dsimp only
    rw [p16, e2000, hw, cond_false, p16_1]
  | some q =>
    obtain ⟨g1, g2⟩ := hw2 q rfl
    obtain ⟨d, h1, h2, h3⟩ := depth_may fail 100 (by omega) fu t (by omega) g2
    by_cases c : d ≤ 100
    · obtain ⟨b, hb, hb2⟩ := may_levels fail 100 (by omega) fu t (by omega) g2 (h3 c)
      obtain ⟨b', hb', hb2'⟩ := may_names fail 100 (by omega) fu t (by omega) g2 (h3 c)
      dsimp only at hb hb'
      cases b with
      | false =>
        refine ⟨false, fun K => ?_, fun h => by cases h⟩
        dsimp only
        rw [p16, e2000, hw]
        dsimp only
        rw [cond_true, e100, h1, leqT (by omega), cond_true, hb, cond_false, p16_1]
      | true =>
        refine ⟨b', fun K => ?_, fun h => ?_⟩
        · dsimp only
          rw [p16, e2000, hw]
          dsimp only
          rw [cond_true, e100, h1, leqT (by omega), cond_true, hb, cond_true, hb', p16_1]
        · obtain ⟨P, p1, p2⟩ := hb2 rfl
          obtain ⟨Q, q1, q2⟩ := hb2' h
          exact ⟨good_of p2 q2 100 t g2 (h3 c) p1 q1, by omega⟩
    · refine ⟨false, fun K => ?_, fun h => by cases h⟩
      dsimp only
      rw [p16, e2000, hw]
      dsimp only
      rw [cond_true, e100, h1, leqF (by omega), cond_false, p16_1]
mutual
theorem Lv.sz_parts : ∀ l : Lv, l.sz + 1 = 2 * l.parts
  | .mk k n l => by have := Lv.szs_parts l; simp only [Lv.sz, Lv.parts]; omega
theorem Lv.szs_parts : ∀ l : List Lv, Lv.szs l = 2 * Lv.partss l
  | [] => rfl
  | a :: l => by have := Lv.sz_parts a; have h2 := Lv.szs_parts l; simp only [Lv.szs, Lv.partss]; omega
end
theorem levels_sz : ∀ (l : List Lv), (∀ b ∈ l, Lv.good 32 b ∧ b.parts ≤ 64) → Lv.szs l ≤ 128 * l.length
  | [], _ => Nat.le_refl _
  | a :: l, h => by
    have h1 := (h a (by simp)).2
    have h2 := Lv.sz_parts a
    have h3 := levels_sz l fun b hb => h b (by simp [hb])
    simp only [Lv.szs, List.length_cons]; omega
theorem rows_sz {d : Nat} (hd : ∀ t : Tm, t.good d → t.sz + 1 ≤ 600 * t.parts) : ∀ (a : List Tm), (∀ b ∈ a, Tm.good d b) → Tm.szs a ≤ 600 * Tm.partss a
  | [], _ => Nat.le_refl _
  | b :: a, h => by
    have h1 := hd b (h b (by simp))
    have h2 := rows_sz hd a fun c hc => h c (by simp [hc])
    simp only [Tm.szs, Tm.partss]; omega
theorem good_sz : ∀ (d : Nat) (t : Tm), t.good d → t.sz + 1 ≤ 600 * t.parts
  | 0, _, h => h.elim
  | d + 1, .mk k n s l a, h => by
    obtain ⟨hk, hl, ha⟩ := h
    have h1 := levels_sz l hl
    have h2 := rows_sz (good_sz d) a ha
    simp only [Tm.sz, Tm.parts]
    have h3 : s.size ≤ 24 ∧ l.length ≤ 4 := by
      rcases hk with ⟨_, _, _, h, h', _⟩ | ⟨_, _, h, h', _⟩ | ⟨_, _, h, h', _⟩ | ⟨_, _, _, h, h', _⟩
      · rw [h']; exact ⟨by omega, Nat.zero_le _⟩
      · omega
      · omega
      · rw [h']; exact ⟨by omega, Nat.zero_le _⟩
    omega
theorem good_lvs {d : Nat} (hd : ∀ t : Tm, t.good d → t.lvOk) : ∀ (a : List Tm), (∀ b ∈ a, Tm.good d b) → Tm.lvOks a
  | [], _ => trivial
  | b :: a, h => ⟨hd b (h b (by simp)), good_lvs hd a fun c hc => h c (by simp [hc])⟩
theorem good_lv : ∀ (d : Nat) (t : Tm), t.good d → t.lvOk
  | 0, _, h => h.elim
  | d + 1, .mk k n s l a, h => by
    obtain ⟨hk, hl, ha⟩ := h
    refine ⟨fun h1 => ?_, fun h1 h2 => ?_, good_lvs (good_lv d) a ha⟩
    · rcases hk with ⟨h, _⟩ | ⟨_, _, _, h, _⟩ | ⟨h, _⟩ | ⟨h, _⟩ <;> omega
    · rcases hk with ⟨_, _, _, _, h, _⟩ | ⟨h, _⟩ | ⟨h, _⟩ | ⟨_, _, _, _, h, _⟩
      · exact h
      · omega
      · omega
      · exact h
end Go.Proofs.Ythncmjlcmlmnmaa

namespace Go.Proofs.Ythncmjlcmlmnmaa
open Go V
set_option maxRecDepth 100000
set_option maxHeartbeats 2000000
mutual
theorem Lv.enc_sz : ∀ l : Lv, l.enc.length ≤ 20 * l.sz
  | .mk k n l => by
    have := Lv.encs_sz l
    have h1 := varB_10 (uv_lt k)
    have h2 := varB_10 (uv_lt n)
    have h3 : (if k = 4 then varB (uv n) else []).length ≤ 10 := by
      split
      · exact h2
      · exact Nat.zero_le _
    simp only [Lv.sz, Lv.enc, List.length_append]; omega
theorem Lv.encs_sz : ∀ l : List Lv, (Lv.encs l).length ≤ 20 * Lv.szs l
  | [] => Nat.zero_le _
  | a :: l => by
    have := Lv.enc_sz a
    have h2 := Lv.encs_sz l
    simp only [Lv.szs, Lv.encs, List.length_append]; omega
end
mutual
theorem Tm.enc_sz : ∀ t : Tm, t.sz < 1099511627776 → t.enc.length ≤ 40 * t.sz
  | .mk k n s l a, h => by
    simp only [Tm.sz] at h
    have := Tm.encs_sz a (by omega)
    have h0 := Lv.encs_sz l
    have hl := Lv.szs_len l
    have h1 := varB_10 (uv_lt k)
    have h2 := varB_10 (uv_lt n)
    have h4 := varB_10 (show s.size < 2 ^ 64 by omega)
    have h5 := varB_10 (show l.length < 2 ^ 64 by omega)
    have h3 : (if k = 0 then varB (uv n) else if k = 2 then txB s ++ varB l.length else []).length ≤ 20 + s.size := by
      split
      · omega
      · split
        · simp only [txB, List.length_append, sz_data]; omega
        · simp
    simp only [Tm.sz, Tm.enc, List.length_append]; omega
theorem Tm.encs_sz : ∀ l : List Tm, Tm.szs l < 1099511627776 → (Tm.encs l).length ≤ 40 * Tm.szs l
  | [], _ => Nat.zero_le _
  | a :: l, h => by
    simp only [Tm.szs] at h
    have := Tm.enc_sz a (by omega)
    have h2 := Tm.encs_sz l (by omega)
    simp only [Tm.szs, Tm.encs, List.length_append]; omega
end
end Go.Proofs.Ythncmjlcmlmnmaa

namespace Go.Proofs.Ythncmjlcmlmnmaa
open Go V
set_option maxRecDepth 100000
set_option maxHeartbeats 4000000
def p113_1 {ρ : Type} (fail : ρ) (fu : Nat)  (K0 : EL → ρ) (rec1 : Int → EL → ρ)  (z1 : Int) (z2 : EL) : ρ :=
  bif (cmpStd .geq z1 128) then (gd ((128 : Int) ≠ 0) fail (gd (1 ≤ [[(CV.v (.int .u8 (binStd .add .u8 (IntKind.u8.wrap (binStd .rem .u64 z1 128)) 128)))]].length) fail (gd ((z2.length + (List.take 1 [[(CV.v (.int .u8 (binStd .add .u8 (IntKind.u8.wrap (binStd .rem .u64 z1 128)) 128)))]]).length) * 1 ≤ 35184372088832) fail (gd ((128 : Int) ≠ 0) fail (rec1 (binStd .quo .u64 z1 128) (z2 ++ (List.take 1 [[(CV.v (.int .u8 (binStd .add .u8 (IntKind.u8.wrap (binStd .rem .u64 z1 128)) 128)))]]))))))) else (gd (1 ≤ [[(CV.v (.int .u8 (IntKind.u8.wrap z1)))]].length) fail (gd ((z2.length + (List.take 1 [[(CV.v (.int .u8 (IntKind.u8.wrap z1)))]]).length) * 1 ≤ 35184372088832) fail (K0 (z2 ++ (List.take 1 [[(CV.v (.int .u8 (IntKind.u8.wrap z1)))]])))))
def p113_1L {ρ : Type} (fail : ρ) (fu : Nat)  (K0 : EL → ρ)   : Nat → Int → EL → ρ
  | 0, _, _ => fail
  | n + 1, z1, z2 => p113_1 fail fu  K0 (p113_1L fail fu  K0   n)  z1 z2
/-- ref1.Var -/
def p113 {ρ : Type} (fail : ρ) (fu : Nat)  (K0 : EL → ρ) (x0 : EL) (x1 : Int) : ρ :=
  gd (0 = nilE.length) fail (gd ((nilE.length + x0.length) * 1 ≤ 35184372088832) fail (p113_1L fail fu  K0  fu x1 (nilE ++ x0)))
theorem d_p113 (fu : Nat)  {K0 : EL → Prop} (L : EL → Nat) (hN : L = List.length) {x0 : EL} {x1 : Int} (h : p113 False fu K0 x0 x1) : Den Try.prog G0 113 [.c (.sl 1 x0 none), .c (.v (.int .u64 x1))] (fun r bs => (∃ (y0 : EL) (o0 : OV) (o1 : OV), (r = .arr 1 y0 none false (L y0) ∧ bs = [o0, o1]) ∧ K0 y0)) := by
  obtain ⟨O, hO⟩ : ∃ O, O = std 0 T G0 (Den Try.prog G0) := ⟨_, rfl⟩
  have hLO : L = O.len := by rw [hN, hO]; rfl
  subst hLO
  refine den_h hO tiA mixed tabOk (fn := Try.f113) (sh := false) (by kernel_rfl) rfl rfl rfl rfl ?_
  intro Q hQ
  unfold p113 at h
  conv => cbv
  refine and_h h (fun g => (by subst hO; exact g)) (fun h => ?_)
  refine and_h h (fun g => (by subst hO; exact g)) (fun h => ?_)
  refine loop_of hO tiA [1, 5] [7000] [] (fun (n : Nat) tm m => ∃ (z1 : Int) (z2 : EL), ((tm = frame 0 25 [(1, .c (.v (.int .u64 z1))), (5, .t 7000 0 (O.len z2))] ∧ m = ⟨[(7000, .arr 0 1 z2 none false)], 1⟩)) ∧ p113_1L False fu  K0  n z1 z2) (fun n => n) fu ⟨x1, (nilE ++ x0), ⟨(by (conv => lhs; cbv) <;> (subst hO; rfl)), (by (conv => lhs; cbv) <;> (subst hO; rfl))⟩, h⟩ ?_
  rintro n1 tm m L ⟨z1, z2, hs, h⟩ hLn1
  cases n1 with
  | zero => rw [p113_1L] at h; exact h.elim
  | succ n1 =>
    rw [p113_1L] at h
    unfold p113_1 at h
    obtain ⟨rfl, rfl⟩ := hs
    conv => cbv
    refine br_h hO h (by subst hO; rfl) (fun hc1 h => ?_) (fun hc1 h => ?_)
    · conv => cbv
      refine join_all hO ?_
      conv => cbv
      refine alt_l hO ?_
      conv => cbv
      refine and_h h (fun g => (by subst hO; exact g)) (fun h => ?_)
      refine view_h hO h (fun g => (by subst hO; exact g)) (fun h => ?_)
      conv => cbv
      refine ⟨(by subst hO; rfl), ?_⟩
      refine and_h h (fun g => (by subst hO; exact g)) (fun h => ?_)
      refine and_h h (fun g => (by subst hO; exact g)) (fun h => ?_)
      exact hLn1 n1 _ _ (Nat.lt_succ_self n1) ⟨binStd .quo .u64 z1 128, (z2 ++ (List.take 1 [[(CV.v (.int .u8 (binStd .add .u8 (IntKind.u8.wrap (binStd .rem .u64 z1 128)) 128)))]])), ⟨(by (conv => lhs; cbv) <;> (subst hO; rfl)), (by (conv => lhs; cbv) <;> (subst hO; rfl))⟩, h⟩
    · conv => cbv
      refine alt_l hO ?_
      conv => cbv
      refine view_h hO h (fun g => (by subst hO; exact g)) (fun h => ?_)
      conv => cbv
      refine ⟨(by subst hO; rfl), ?_⟩
      refine and_h h (fun g => (by subst hO; exact g)) (fun h => ?_)
      refine ⟨(by subst hO; exact Nat.le_refl _), ?_⟩
      rw [hQ]
      exact ⟨(z2 ++ (List.take 1 [[(CV.v (.int .u8 (IntKind.u8.wrap z1)))]])), _, _, ⟨(by subst hO; rfl), (by subst hO; rfl)⟩, h⟩
end Go.Proofs.Ythncmjlcmlmnmaa

namespace Go.Proofs.Ythncmjlcmlmnmaa
open Go V
set_option maxRecDepth 100000
set_option maxHeartbeats 4000000
/-- ref6.num -/
def p72 {ρ : Type} (fail : ρ) (fu : Nat)  (K0 : EL → ρ) (x0 : EL) (x1 : Int) : ρ :=
  p113 fail fu (fun y1 => K0 y1) x0 (IntKind.u64.wrap x1)
theorem d_p72 (fu : Nat)  {K0 : EL → Prop} (L : EL → Nat) (hN : L = List.length) {x0 : EL} {x1 : Int} (h : p72 False fu K0 x0 x1) : Den Try.prog G0 72 [.c (.sl 1 x0 none), .c (.v (.int .i64 x1))] (fun r bs => (∃ (y0 : EL) (o0 : OV) (o1 : OV), (r = .c (.sl 1 y0 none) ∧ bs = [o0, o1]) ∧ K0 y0)) := by
  obtain ⟨O, hO⟩ : ∃ O, O = std 0 T G0 (Den Try.prog G0) := ⟨_, rfl⟩
  have hLO : L = O.len := by rw [hN, hO]; rfl
  subst hLO
  refine den_h hO tiA mixed tabOk (fn := Try.f72) (sh := true) (by kernel_rfl) rfl rfl rfl rfl ?_
  intro Q hQ
  unfold p72 at h
  conv => cbv
  refine call_h hO [.shut, .shut] (d_p113 fu O.len hN h) ?_
  intro os Q hos hQ
  conv => cbv
  refine ⟨(by (rw [hos]) <;> (subst hO; rfl)), ?_⟩
  intro r bs hq
  rw [hQ] at hq
  clear hos hQ h
  obtain ⟨y1, _, _, ⟨rfl, rfl⟩, h⟩ := hq
  conv => cbv
  refine view_full hO ?_
  conv => cbv
  rw [hQ]
  exact ⟨y1, _, _, ⟨(by subst hO; rfl), (by subst hO; rfl)⟩, h⟩
end Go.Proofs.Ythncmjlcmlmnmaa

namespace Go.Proofs.Ythncmjlcmlmnmaa
open Go V
set_option maxRecDepth 100000
set_option maxHeartbeats 4000000
def p28_1 {ρ : Type} (fail : ρ) (fu : Nat) (s_p28 : (EL → ρ) → EL → Int → Int → EL → ρ) (K0 : EL → ρ) (rec1 : EL → Int → ρ) (x3 : EL) (z3 : EL) (z4 : Int) : ρ :=
  bif (cmpStd .lss z4 ((x3.length : Nat) : Int)) then (gd ((0 : Int) ≤ z4) fail (gd ((z4 : Int) < (x3.length : Nat)) fail (rw_i64_i64_l3 fail (List.getD x3 ((z4 : Int).toNat) []) (fun c5 c6 c7 => s_p28 (fun y8 => rec1 y8 (binStd .add .i64 z4 1)) z3 c5 c6 c7)))) else (K0 z3)
def p28_1L {ρ : Type} (fail : ρ) (fu : Nat) (s_p28 : (EL → ρ) → EL → Int → Int → EL → ρ) (K0 : EL → ρ)  (x3 : EL) : Nat → EL → Int → ρ
  | 0, _, _ => fail
  | n + 1, z3, z4 => p28_1 fail fu s_p28 K0 (p28_1L fail fu s_p28 K0  x3 n) x3 z3 z4
def p28_2 {ρ : Type} (fail : ρ) (fu : Nat) (s_p28 : (EL → ρ) → EL → Int → Int → EL → ρ) (K0 : EL → ρ)  (x3 : EL) (j2 : EL) : ρ :=
  p28_1L fail fu s_p28 K0 x3 fu j2 0
/-- ref6.Level -/
def p28_b {ρ : Type} (fail : ρ) (fu : Nat) (s_p28 : (EL → ρ) → EL → Int → Int → EL → ρ) (K0 : EL → ρ) (x0 : EL) (x1 : Int) (x2 : Int) (x3 : EL) : ρ :=
  p72 fail fu (fun y1 => bif (cmpStd .eql x1 4) then (p72 fail fu (fun y9 => p28_2 fail fu s_p28 K0 x3 y9) y1 x2) else (p28_2 fail fu s_p28 K0 x3 y1)) x0 x1
def p28 {ρ : Type} (fail : ρ) : Nat → (EL → ρ) → EL → Int → Int → EL → ρ
  | 0, _, _, _, _, _ => fail
  | n + 1, K0, x0, x1, x2, x3 => p28_b fail n (p28 fail n) K0 x0 x1 x2 x3
def D_p28 (fu : Nat) : Prop := ∀ {K0 : EL → Prop} (L : EL → Nat) (_ : L = List.length) {x0 : EL} {x1 : Int} {x2 : Int} {x3 : EL} (_ : p28 False fu K0 x0 x1 x2 x3), Den Try.prog G0 28 [.c (.sl 1 x0 none), .agg [.c (.v (.int .i64 x1)), .c (.v (.int .i64 x2)), .c (.sl 3 x3 none)]] (fun r bs => (∃ (y0 : EL) (o0 : OV) (o1 : OV), (r = .c (.sl 1 y0 none) ∧ bs = [o0, o1]) ∧ K0 y0))
theorem b_p28 (fu : Nat) (ih_p28 : D_p28 fu) {K0 : EL → Prop} (L : EL → Nat) (hN : L = List.length) {x0 : EL} {x1 : Int} {x2 : Int} {x3 : EL} (h : p28_b False fu (p28 False fu) K0 x0 x1 x2 x3) : Den Try.prog G0 28 [.c (.sl 1 x0 none), .agg [.c (.v (.int .i64 x1)), .c (.v (.int .i64 x2)), .c (.sl 3 x3 none)]] (fun r bs => (∃ (y0 : EL) (o0 : OV) (o1 : OV), (r = .c (.sl 1 y0 none) ∧ bs = [o0, o1]) ∧ K0 y0)) := by
  obtain ⟨O, hO⟩ : ∃ O, O = std 0 T G0 (Den Try.prog G0) := ⟨_, rfl⟩
  have hLO : L = O.len := by rw [hN, hO]; rfl
  subst hLO
  refine den_h hO tiA mixed tabOk (fn := Try.f28) (sh := true) (by kernel_rfl) rfl rfl rfl rfl ?_
  intro Q hQ
  unfold p28_b at h
  conv => cbv
  refine call_h hO [.shut, .shut] (d_p72 fu O.len hN h) ?_
  intro os Q hos hQ
  conv => cbv
  refine ⟨(by (rw [hos]) <;> (subst hO; rfl)), ?_⟩
  intro r bs hq
  rw [hQ] at hq
  clear hos hQ h
  obtain ⟨y1, _, _, ⟨rfl, rfl⟩, h⟩ := hq
  conv => cbv
  refine br_join_h hO tiA h (by subst hO; rfl) [0, 3] [4000] [] (fun tm m => ∃ (j2 : EL), ((tm = frame 0 32 [(0, .c (.sl 1 j2 none)), (3, .p 4000 0 0)] ∧ m = ⟨[(4000, .blk 0 [.c (.v (.int .i64 x1)), .c (.v (.int .i64 x2)), .c (.sl 3 x3 none)])], 1⟩)) ∧ p28_2 False fu (p28 False fu) K0 x3 j2) (fun hc2 h L hL_2 => ?_) (fun hc2 h L hL_2 => ?_) ?_
  · conv => cbv
    refine call_h hO [.shut, .shut] (d_p72 fu O.len hN h) ?_
    intro os Q hos hQ
    conv => cbv
    refine ⟨(by (rw [hos]) <;> (subst hO; rfl)), ?_⟩
    intro r bs hq
    rw [hQ] at hq
    clear hos hQ h
    obtain ⟨y9, _, _, ⟨rfl, rfl⟩, h⟩ := hq
    conv => cbv
    exact hL_2 _ _ ⟨y9, ⟨(by (conv => lhs; cbv) <;> (subst hO; rfl)), (by (conv => lhs; cbv) <;> (subst hO; rfl))⟩, h⟩
  · conv => cbv
    exact hL_2 _ _ ⟨y1, ⟨(by (conv => lhs; cbv) <;> (subst hO; rfl)), (by (conv => lhs; cbv) <;> (subst hO; rfl))⟩, h⟩
  · rintro tm m ⟨j2, hs, h⟩
    unfold p28_2 at h
    obtain ⟨rfl, rfl⟩ := hs
    conv => cbv
    refine loop_of hO tiA [0, 3, 5] [4000] [] (fun (n : Nat) tm m => ∃ (z3 : EL) (z4 : Int), ((tm = frame 0 32 [(0, .c (.sl 1 z3 none)), (3, .p 4000 0 0), (5, .c (.v (.int .i64 z4)))] ∧ m = ⟨[(4000, .blk 0 [.c (.v (.int .i64 x1)), .c (.v (.int .i64 x2)), .c (.sl 3 x3 none)])], 1⟩)) ∧ p28_1L False fu (p28 False fu) K0 x3 n z3 z4) (fun n => n) fu ⟨j2, 0, ⟨(by (conv => lhs; cbv) <;> (subst hO; rfl)), (by (conv => lhs; cbv) <;> (subst hO; rfl))⟩, h⟩ ?_
    rintro n1 tm m L ⟨z3, z4, hs, h⟩ hLn1
    cases n1 with
    | zero => rw [p28_1L] at h; exact h.elim
    | succ n1 =>
      rw [p28_1L] at h
      unfold p28_1 at h
      obtain ⟨rfl, rfl⟩ := hs
      conv => cbv
      refine br_h hO h (by subst hO; rfl) (fun hc1 h => ?_) (fun hc1 h => ?_)
      · conv => cbv
        refine join_all hO ?_
        conv => cbv
        refine and_h h (fun g => (by subst hO; exact g)) (fun h => ?_)
        refine and_h h (fun g => (by subst hO; exact g)) (fun h => ?_)
        obtain ⟨c5, c6, c7, hr, h⟩ := rw_i64_i64_l3_inv h
        refine elem_of hO _ (by subst hO; exact hr) ?_
        clear hr
        conv => cbv
        refine call_h hO [.shut, .shut] (ih_p28 O.len hN h) ?_
        intro os Q hos hQ
        conv => cbv
        refine ⟨(by (rw [hos]) <;> (subst hO; rfl)), ?_⟩
        intro r bs hq
        rw [hQ] at hq
        clear hos hQ h
        obtain ⟨y8, _, _, ⟨rfl, rfl⟩, h⟩ := hq
        conv => cbv
        exact hLn1 n1 _ _ (Nat.lt_succ_self n1) ⟨y8, binStd .add .i64 z4 1, ⟨(by (conv => lhs; cbv) <;> (subst hO; rfl)), (by (conv => lhs; cbv) <;> (subst hO; rfl))⟩, h⟩
      · conv => cbv
        rw [hQ]
        exact ⟨z3, _, _, ⟨(by subst hO; rfl), (by subst hO; rfl)⟩, h⟩
theorem dd_p28 (fu : Nat) : D_p28 fu := by
  induction fu with
  | zero => unfold D_p28; intros; rename_i h; rw [p28] at h; exact h.elim
  | succ n ih =>
    exact (by unfold D_p28; intro K0 L hN x0 x1 x2 x3 h; exact b_p28 n ih L hN (by rw [p28] at h; exact h))
theorem d_p28 (fu : Nat) {K0 : EL → Prop} (L : EL → Nat) (hL : L = List.length) {x0 : EL} {x1 : Int} {x2 : Int} {x3 : EL} (h : p28 False fu K0 x0 x1 x2 x3) : Den Try.prog G0 28 [.c (.sl 1 x0 none), .agg [.c (.v (.int .i64 x1)), .c (.v (.int .i64 x2)), .c (.sl 3 x3 none)]] (fun r bs => (∃ (y0 : EL) (o0 : OV) (o1 : OV), (r = .c (.sl 1 y0 none) ∧ bs = [o0, o1]) ∧ K0 y0)) := dd_p28 fu L hL h
end Go.Proofs.Ythncmjlcmlmnmaa

namespace Go.Proofs.Ythncmjlcmlmnmaa
open Go V
set_option maxRecDepth 100000
set_option maxHeartbeats 4000000
/-- ref1.Text -/
def p90 {ρ : Type} (fail : ρ) (fu : Nat)  (K0 : EL → ρ) (x0 : EL) (x1 : EL) : ρ :=
  p113 fail fu (fun y1 => gd ((y1.length + x1.length) * 1 ≤ 35184372088832) fail (K0 (y1 ++ x1))) x0 (IntKind.u64.wrap ((x1.length : Nat) : Int))
theorem d_p90 (fu : Nat)  {K0 : EL → Prop} (L : EL → Nat) (hN : L = List.length) {x0 : EL} {x1 : EL} (h : p90 False fu K0 x0 x1) : Den Try.prog G0 90 [.c (.sl 1 x0 none), .c (.sl 1 x1 none)] (fun r bs => (∃ (y0 : EL) (o0 : OV) (o1 : OV), (r = .c (.sl 1 y0 none) ∧ bs = [o0, o1]) ∧ K0 y0)) := by
  obtain ⟨O, hO⟩ : ∃ O, O = std 0 T G0 (Den Try.prog G0) := ⟨_, rfl⟩
  have hLO : L = O.len := by rw [hN, hO]; rfl
  subst hLO
  refine den_h hO tiA mixed tabOk (fn := Try.f90) (sh := true) (by kernel_rfl) rfl rfl rfl rfl ?_
  intro Q hQ
  unfold p90 at h
  conv => cbv
  refine call_h hO [.shut, .shut] (d_p113 fu O.len hN h) ?_
  intro os Q hos hQ
  conv => cbv
  refine ⟨(by (rw [hos]) <;> (subst hO; rfl)), ?_⟩
  intro r bs hq
  rw [hQ] at hq
  clear hos hQ h
  obtain ⟨y1, _, _, ⟨rfl, rfl⟩, h⟩ := hq
  conv => cbv
  refine ⟨(by subst hO; rfl), ?_⟩
  refine and_h h (fun g => (by subst hO; exact g)) (fun h => ?_)
  refine view_full hO ?_
  conv => cbv
  rw [hQ]
  exact ⟨(y1 ++ x1), _, _, ⟨(by subst hO; rfl), (by subst hO; rfl)⟩, h⟩
end Go.Proofs.Ythncmjlcmlmnmaa

namespace Go.Proofs.Ythncmjlcmlmnmaa
open Go V
set_option maxRecDepth 100000
set_option maxHeartbeats 4000000
/-- ref6.text -/
def p73 {ρ : Type} (fail : ρ) (fu : Nat)  (K0 : EL → ρ) (x0 : EL) (x1 : ByteArray) : ρ :=
  gd (x1.size ≤ (encB x1.data.toList).length) fail (p90 fail fu (fun y1 => K0 y1) x0 (List.take x1.size (encB x1.data.toList)))
theorem d_p73 (fu : Nat)  {K0 : EL → Prop} (L : EL → Nat) (hN : L = List.length) {x0 : EL} {x1 : ByteArray} (h : p73 False fu K0 x0 x1) : Den Try.prog G0 73 [.c (.sl 1 x0 none), .c (.v (.string x1))] (fun r bs => (∃ (y0 : EL) (o0 : OV) (o1 : OV), (r = .c (.sl 1 y0 none) ∧ bs = [o0, o1]) ∧ K0 y0)) := by
  obtain ⟨O, hO⟩ : ∃ O, O = std 0 T G0 (Den Try.prog G0) := ⟨_, rfl⟩
  have hLO : L = O.len := by rw [hN, hO]; rfl
  subst hLO
  refine den_h hO tiA mixed tabOk (fn := Try.f73) (sh := true) (by kernel_rfl) rfl rfl rfl rfl ?_
  intro Q hQ
  unfold p73 at h
  conv => cbv
  obtain ⟨hc1, h⟩ := gd_inv h
  refine call_h hO [.shut, .shut] (d_p90 fu O.len hN h) ?_
  intro os Q hos hQ
  conv => cbv
  refine view_of hO (by subst hO; exact hc1) ?_
  conv => cbv
  refine ⟨(by (rw [hos]) <;> (subst hO; rfl)), ?_⟩
  intro r bs hq
  rw [hQ] at hq
  clear hos hQ h
  obtain ⟨y1, _, _, ⟨rfl, rfl⟩, h⟩ := hq
  conv => cbv
  rw [hQ]
  exact ⟨y1, _, _, ⟨(by subst hO; rfl), (by subst hO; rfl)⟩, h⟩
end Go.Proofs.Ythncmjlcmlmnmaa

