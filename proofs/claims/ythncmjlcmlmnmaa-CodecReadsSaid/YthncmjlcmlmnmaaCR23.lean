/- Functions without memory, and that the Go functions are followed by them. Printed by gen.py. Conditions: none. -/
import Derived.Test.YthncmjlcmlmnmaaCR9
import Derived.Test.YthncmjlcmlmnmaaCR13
import Derived.Test.YthncmjlcmlmnmaaCR21
import Derived.Test.YthncmjlcmlmnmaaCR22
import Derived.Test.YthncmjlcmlmnmaaCR14
import Derived.Test.YthncmjlcmlmnmaaCR11
import Derived.Test.YthncmjlcmlmnmaaCR19
import Derived.Test.YthncmjlcmlmnmaaCR20
namespace Go.Proofs.Ythncmjlcmlmnmaa
open Go V
set_option maxRecDepth 100000
set_option maxHeartbeats 4000000
def p38_1 {ρ : Type} (fail : ρ) (fu : Nat)  (K0 : Bool → ρ) (rec1 : Int → ρ) (z2 : Int) (j3 : Bool) : ρ :=
  bif j3 then (K0 false) else (rec1 (binStd .add .i64 z2 1))
def p38_2 {ρ : Type} (fail : ρ) (fu : Nat)  (K0 : Bool → ρ) (rec1 : Int → ρ) (x15 : EL) (x31 : EL) (z2 : Int) : ρ :=
  bif (cmpStd .lss z2 ((x15.length : Nat) : Int)) then (gd ((0 : Int) ≤ z2) fail (gd ((z2 : Int) < (x15.length : Nat)) fail (rw_s_i64_i64_s_l3_l5 fail (List.getD x15 ((z2 : Int).toNat) []) (fun c4 c5 c6 c7 c8 c9 => gd ((0 : Int) ≤ z2) fail (gd ((z2 : Int) < (x31.length : Nat)) fail (rw_s_i64_i64_s_l3_l5 fail (List.getD x31 ((z2 : Int).toNat) []) (fun c10 c11 c12 c13 c14 c15 => bif (scmpStd .neq c4 c10) then (p38_1 fail fu  K0 rec1 z2 true) else (gd ((0 : Int) ≤ z2) fail (gd ((z2 : Int) < (x15.length : Nat)) fail (rw_s_i64_i64_s_l3_l5 fail (List.getD x15 ((z2 : Int).toNat) []) (fun c16 c17 c18 c19 c20 c21 => gd ((0 : Int) ≤ z2) fail (gd ((z2 : Int) < (x31.length : Nat)) fail (rw_s_i64_i64_s_l3_l5 fail (List.getD x31 ((z2 : Int).toNat) []) (fun c22 c23 c24 c25 c26 c27 => p19 fail fu (fun y28 => p38_1 fail fu  K0 rec1 z2 (!y28)) c17 c18 c19 c20 c21 c23 c24 c25 c26 c27)))))))))))))) else (K0 true)
def p38_2L {ρ : Type} (fail : ρ) (fu : Nat)  (K0 : Bool → ρ)  (x15 : EL) (x31 : EL) : Nat → Int → ρ
  | 0, _ => fail
  | n + 1, z2 => p38_2 fail fu  K0 (p38_2L fail fu  K0  x15 x31 n) x15 x31 z2
def p38_3 {ρ : Type} (fail : ρ) (fu : Nat)  (K0 : Bool → ρ)  (x15 : EL) (x31 : EL) (j1 : Bool) : ρ :=
  bif j1 then (K0 false) else (p38_2L fail fu  K0 x15 x31 fu 0)
/-- ref6.SameDecl -/
def p38 {ρ : Type} (fail : ρ) (fu : Nat)  (K0 : Bool → ρ) (x0 : Int) (x1 : Int) (x2 : Int) (x3 : ByteArray) (x4 : ByteArray) (x5 : Int) (x6 : Int) (x7 : ByteArray) (x8 : EL) (x9 : EL) (x10 : Int) (x11 : Int) (x12 : ByteArray) (x13 : EL) (x14 : EL) (x15 : EL) (x16 : Int) (x17 : Int) (x18 : Int) (x19 : ByteArray) (x20 : ByteArray) (x21 : Int) (x22 : Int) (x23 : ByteArray) (x24 : EL) (x25 : EL) (x26 : Int) (x27 : Int) (x28 : ByteArray) (x29 : EL) (x30 : EL) (x31 : EL) : ρ :=
  bif (cmpStd .neq x0 x16) then (p38_3 fail fu  K0 x15 x31 true) else (bif (cmpStd .neq x1 x17) then (p38_3 fail fu  K0 x15 x31 true) else (bif (cmpStd .neq x2 x18) then (p38_3 fail fu  K0 x15 x31 true) else (bif (scmpStd .neq x3 x19) then (p38_3 fail fu  K0 x15 x31 true) else (bif (scmpStd .neq x4 x20) then (p38_3 fail fu  K0 x15 x31 true) else (p19 fail fu (fun y29 => bif (!y29) then (p38_3 fail fu  K0 x15 x31 true) else (p19 fail fu (fun y30 => bif (!y30) then (p38_3 fail fu  K0 x15 x31 true) else (p38_3 fail fu  K0 x15 x31 (cmpStd .neq ((x15.length : Nat) : Int) ((x31.length : Nat) : Int)))) x10 x11 x12 x13 x14 x26 x27 x28 x29 x30)) x5 x6 x7 x8 x9 x21 x22 x23 x24 x25)))))
theorem d_p38 (fu : Nat)  {K0 : Bool → Prop} (L : EL → Nat) (hN : L = List.length) {x0 : Int} {x1 : Int} {x2 : Int} {x3 : ByteArray} {x4 : ByteArray} {x5 : Int} {x6 : Int} {x7 : ByteArray} {x8 : EL} {x9 : EL} {x10 : Int} {x11 : Int} {x12 : ByteArray} {x13 : EL} {x14 : EL} {x15 : EL} {x16 : Int} {x17 : Int} {x18 : Int} {x19 : ByteArray} {x20 : ByteArray} {x21 : Int} {x22 : Int} {x23 : ByteArray} {x24 : EL} {x25 : EL} {x26 : Int} {x27 : Int} {x28 : ByteArray} {x29 : EL} {x30 : EL} {x31 : EL} (h : p38 False fu K0 x0 x1 x2 x3 x4 x5 x6 x7 x8 x9 x10 x11 x12 x13 x14 x15 x16 x17 x18 x19 x20 x21 x22 x23 x24 x25 x26 x27 x28 x29 x30 x31) : Den Try.prog G0 38 [.agg [.c (.v (.int .i64 x0)), .c (.v (.int .i64 x1)), .c (.v (.int .i64 x2)), .c (.v (.string x3)), .c (.v (.string x4)), .c (.v (.int .i64 x5)), .c (.v (.int .i64 x6)), .c (.v (.string x7)), .c (.sl 3 x8 none), .c (.sl 5 x9 none), .c (.v (.int .i64 x10)), .c (.v (.int .i64 x11)), .c (.v (.string x12)), .c (.sl 3 x13 none), .c (.sl 5 x14 none), .c (.sl 6 x15 none)], .agg [.c (.v (.int .i64 x16)), .c (.v (.int .i64 x17)), .c (.v (.int .i64 x18)), .c (.v (.string x19)), .c (.v (.string x20)), .c (.v (.int .i64 x21)), .c (.v (.int .i64 x22)), .c (.v (.string x23)), .c (.sl 3 x24 none), .c (.sl 5 x25 none), .c (.v (.int .i64 x26)), .c (.v (.int .i64 x27)), .c (.v (.string x28)), .c (.sl 3 x29 none), .c (.sl 5 x30 none), .c (.sl 6 x31 none)]] (fun r bs => (∃ (y0 : Bool) (o0 : OV) (o1 : OV), (r = .c (.v (.bool y0)) ∧ bs = [o0, o1]) ∧ K0 y0)) := by
  obtain ⟨O, hO⟩ : ∃ O, O = std 0 T G0 (Den Try.prog G0) := ⟨_, rfl⟩
  have hLO : L = O.len := by rw [hN, hO]; rfl
  subst hLO
  refine den_h hO tiA mixed tabOk (fn := Try.f38) (sh := true) (by kernel_rfl) rfl rfl rfl rfl ?_
  intro Q hQ
  unfold p38 at h
  conv => cbv
  refine reg_join hO tiA [2, 3, 63] [3000, 4000] [] (fun tm m => ∃ (j1 : Bool), ((tm = frame 0 100 [(2, .p 3000 0 0), (3, .p 4000 0 0), (63, .c (.v (.bool j1)))] ∧ m = ⟨[(3000, .blk 0 [.c (.v (.int .i64 x0)), .c (.v (.int .i64 x1)), .c (.v (.int .i64 x2)), .c (.v (.string x3)), .c (.v (.string x4)), .c (.v (.int .i64 x5)), .c (.v (.int .i64 x6)), .c (.v (.string x7)), .c (.sl 3 x8 none), .c (.sl 5 x9 none), .c (.v (.int .i64 x10)), .c (.v (.int .i64 x11)), .c (.v (.string x12)), .c (.sl 3 x13 none), .c (.sl 5 x14 none), .c (.sl 6 x15 none)]), (4000, .blk 0 [.c (.v (.int .i64 x16)), .c (.v (.int .i64 x17)), .c (.v (.int .i64 x18)), .c (.v (.string x19)), .c (.v (.string x20)), .c (.v (.int .i64 x21)), .c (.v (.int .i64 x22)), .c (.v (.string x23)), .c (.sl 3 x24 none), .c (.sl 5 x25 none), .c (.v (.int .i64 x26)), .c (.v (.int .i64 x27)), .c (.v (.string x28)), .c (.sl 3 x29 none), .c (.sl 5 x30 none), .c (.sl 6 x31 none)])], 1⟩)) ∧ p38_3 False fu  K0 x15 x31 j1) (fun L hL_3 => ?_) ?_
  · conv => cbv
    refine br_h hO h (by subst hO; rfl) (fun hc5 h => ?_) (fun hc5 h => ?_)
    · conv => cbv
      refine br_t hO hc5 ?_
      conv => cbv
      refine br_t hO hc5 ?_
      conv => cbv
      refine br_t hO hc5 ?_
      conv => cbv
      refine br_t hO hc5 ?_
      conv => cbv
      refine br_t hO hc5 ?_
      conv => cbv
      refine br_t hO rfl ?_
      conv => cbv
      refine br_t hO rfl ?_
      conv => cbv
      refine br_t hO rfl ?_
      conv => cbv
      refine br_t hO rfl ?_
      conv => cbv
      refine br_t hO rfl ?_
      conv => cbv
      refine br_t hO rfl ?_
      conv => cbv
      refine br_t hO rfl ?_
      conv => cbv
      refine br_t hO rfl ?_
      conv => cbv
      refine br_t hO rfl ?_
      conv => cbv
      refine br_t hO rfl ?_
      conv => cbv
      refine br_t hO rfl ?_
      conv => cbv
      refine br_t hO rfl ?_
      conv => cbv
      refine br_t hO rfl ?_
      conv => cbv
      refine br_t hO rfl ?_
      conv => cbv
      refine br_t hO rfl ?_
      conv => cbv
      refine br_t hO rfl ?_
      conv => cbv
      refine br_t hO rfl ?_
      conv => cbv
      refine br_t hO rfl ?_
      conv => cbv
      refine br_t hO rfl ?_
      conv => cbv
      refine br_t hO rfl ?_
      conv => cbv
      refine br_t hO rfl ?_
      conv => cbv
      refine br_t hO rfl ?_
      conv => cbv
      refine br_t hO rfl ?_
      conv => cbv
      refine br_t hO rfl ?_
      conv => cbv
      refine br_t hO rfl ?_
      conv => cbv
      refine br_t hO rfl ?_
      conv => cbv
      refine br_t hO rfl ?_
      conv => cbv
      refine br_t hO rfl ?_
      conv => cbv
      refine br_t hO rfl ?_
      conv => cbv
      refine br_t hO rfl ?_
      conv => cbv
      refine br_t hO rfl ?_
      conv => cbv
      refine br_t hO rfl ?_
      conv => cbv
      refine br_t hO rfl ?_
      conv => cbv
      refine br_t hO rfl ?_
      conv => cbv
      refine br_t hO rfl ?_
      conv => cbv
      refine br_t hO rfl ?_
      conv => cbv
      refine br_t hO rfl ?_
      conv => cbv
      refine br_t hO rfl ?_
      conv => cbv
      refine br_t hO rfl ?_
      conv => cbv
      refine br_t hO rfl ?_
      conv => cbv
      exact hL_3 _ _ ⟨true, ⟨(by (conv => lhs; cbv) <;> (subst hO; rfl)), (by (conv => lhs; cbv) <;> (subst hO; rfl))⟩, h⟩
    · conv => cbv
      refine br_f hO hc5 ?_
      conv => cbv
      refine br_f hO hc5 ?_
      conv => cbv
      refine br_f hO hc5 ?_
      conv => cbv
      refine br_f hO hc5 ?_
      conv => cbv
      refine br_f hO hc5 ?_
      conv => cbv
      refine br_h hO h (by subst hO; rfl) (fun hc6 h => ?_) (fun hc6 h => ?_)
      · conv => cbv
        refine br_t hO hc6 ?_
        conv => cbv
        refine br_t hO hc6 ?_
        conv => cbv
        refine br_t hO hc6 ?_
        conv => cbv
        refine br_t hO hc6 ?_
        conv => cbv
        refine br_t hO hc6 ?_
        conv => cbv
        refine br_t hO rfl ?_
        conv => cbv
        refine br_t hO rfl ?_
        conv => cbv
        refine br_t hO rfl ?_
        conv => cbv
        refine br_t hO rfl ?_
        conv => cbv
        refine br_t hO rfl ?_
        conv => cbv
        refine br_t hO rfl ?_
        conv => cbv
        refine br_t hO rfl ?_
        conv => cbv
        refine br_t hO rfl ?_
        conv => cbv
        refine br_t hO rfl ?_
        conv => cbv
        refine br_t hO rfl ?_
        conv => cbv
        refine br_t hO rfl ?_
        conv => cbv
        refine br_t hO rfl ?_
        conv => cbv
        refine br_t hO rfl ?_
        conv => cbv
        refine br_t hO rfl ?_
        conv => cbv
        refine br_t hO rfl ?_
        conv => cbv
        refine br_t hO rfl ?_
        conv => cbv
        refine br_t hO rfl ?_
        conv => cbv
        refine br_t hO rfl ?_
        conv => cbv
        refine br_t hO rfl ?_
        conv => cbv
        refine br_t hO rfl ?_
        conv => cbv
        refine br_t hO rfl ?_
        conv => cbv
        refine br_t hO rfl ?_
        conv => cbv
        refine br_t hO rfl ?_
        conv => cbv
        refine br_t hO rfl ?_
        conv => cbv
        refine br_t hO rfl ?_
        conv => cbv
        refine br_t hO rfl ?_
        conv => cbv
        refine br_t hO rfl ?_
        conv => cbv
        refine br_t hO rfl ?_
        conv => cbv
        refine br_t hO rfl ?_
        conv => cbv
        refine br_t hO rfl ?_
        conv => cbv
        refine br_t hO rfl ?_
        conv => cbv
        refine br_t hO rfl ?_
        conv => cbv
        refine br_t hO rfl ?_
        conv => cbv
        refine br_t hO rfl ?_
        conv => cbv
        exact hL_3 _ _ ⟨true, ⟨(by (conv => lhs; cbv) <;> (subst hO; rfl)), (by (conv => lhs; cbv) <;> (subst hO; rfl))⟩, h⟩
      · conv => cbv
        refine br_f hO hc6 ?_
        conv => cbv
        refine br_f hO hc6 ?_
        conv => cbv
        refine br_f hO hc6 ?_
        conv => cbv
        refine br_f hO hc6 ?_
        conv => cbv
        refine br_f hO hc6 ?_
        conv => cbv
        refine br_h hO h (by subst hO; rfl) (fun hc7 h => ?_) (fun hc7 h => ?_)
        · conv => cbv
          refine br_t hO hc7 ?_
          conv => cbv
          refine br_t hO hc7 ?_
          conv => cbv
          refine br_t hO hc7 ?_
          conv => cbv
          refine br_t hO hc7 ?_
          conv => cbv
          refine br_t hO hc7 ?_
          conv => cbv
          refine br_t hO rfl ?_
          conv => cbv
          refine br_t hO rfl ?_
          conv => cbv
          refine br_t hO rfl ?_
          conv => cbv
          refine br_t hO rfl ?_
          conv => cbv
          refine br_t hO rfl ?_
          conv => cbv
          refine br_t hO rfl ?_
          conv => cbv
          refine br_t hO rfl ?_
          conv => cbv
          refine br_t hO rfl ?_
          conv => cbv
          refine br_t hO rfl ?_
          conv => cbv
          refine br_t hO rfl ?_
          conv => cbv
          refine br_t hO rfl ?_
          conv => cbv
          refine br_t hO rfl ?_
          conv => cbv
          refine br_t hO rfl ?_
          conv => cbv
          refine br_t hO rfl ?_
          conv => cbv
          refine br_t hO rfl ?_
          conv => cbv
          refine br_t hO rfl ?_
          conv => cbv
          refine br_t hO rfl ?_
          conv => cbv
          refine br_t hO rfl ?_
          conv => cbv
          refine br_t hO rfl ?_
          conv => cbv
          refine br_t hO rfl ?_
          conv => cbv
          refine br_t hO rfl ?_
          conv => cbv
          refine br_t hO rfl ?_
          conv => cbv
          refine br_t hO rfl ?_
          conv => cbv
          refine br_t hO rfl ?_
          conv => cbv
          refine br_t hO rfl ?_
          conv => cbv
          refine br_t hO rfl ?_
          conv => cbv
          refine br_t hO rfl ?_
          conv => cbv
          refine br_t hO rfl ?_
          conv => cbv
          exact hL_3 _ _ ⟨true, ⟨(by (conv => lhs; cbv) <;> (subst hO; rfl)), (by (conv => lhs; cbv) <;> (subst hO; rfl))⟩, h⟩
        · conv => cbv
          refine br_f hO hc7 ?_
          conv => cbv
          refine br_f hO hc7 ?_
          conv => cbv
          refine br_f hO hc7 ?_
          conv => cbv
          refine br_f hO hc7 ?_
          conv => cbv
          refine br_f hO hc7 ?_
          conv => cbv
          refine br_h hO h (by subst hO; rfl) (fun hc8 h => ?_) (fun hc8 h => ?_)
          · conv => cbv
            refine br_t hO hc8 ?_
            conv => cbv
            refine br_t hO hc8 ?_
            conv => cbv
            refine br_t hO hc8 ?_
            conv => cbv
            refine br_t hO hc8 ?_
            conv => cbv
            refine br_t hO hc8 ?_
            conv => cbv
            refine br_t hO rfl ?_
            conv => cbv
            refine br_t hO rfl ?_
            conv => cbv
            refine br_t hO rfl ?_
            conv => cbv
            refine br_t hO rfl ?_
            conv => cbv
            refine br_t hO rfl ?_
            conv => cbv
            refine br_t hO rfl ?_
            conv => cbv
            refine br_t hO rfl ?_
            conv => cbv
            refine br_t hO rfl ?_
            conv => cbv
            refine br_t hO rfl ?_
            conv => cbv
            refine br_t hO rfl ?_
            conv => cbv
            refine br_t hO rfl ?_
            conv => cbv
            refine br_t hO rfl ?_
            conv => cbv
            refine br_t hO rfl ?_
            conv => cbv
            refine br_t hO rfl ?_
            conv => cbv
            refine br_t hO rfl ?_
            conv => cbv
            refine br_t hO rfl ?_
            conv => cbv
            refine br_t hO rfl ?_
            conv => cbv
            refine br_t hO rfl ?_
            conv => cbv
            refine br_t hO rfl ?_
            conv => cbv
            refine br_t hO rfl ?_
            conv => cbv
            refine br_t hO rfl ?_
            conv => cbv
            refine br_t hO rfl ?_
            conv => cbv
            exact hL_3 _ _ ⟨true, ⟨(by (conv => lhs; cbv) <;> (subst hO; rfl)), (by (conv => lhs; cbv) <;> (subst hO; rfl))⟩, h⟩
          · conv => cbv
            refine br_f hO hc8 ?_
            conv => cbv
            refine br_f hO hc8 ?_
            conv => cbv
            refine br_f hO hc8 ?_
            conv => cbv
            refine br_f hO hc8 ?_
            conv => cbv
            refine br_f hO hc8 ?_
            conv => cbv
            refine br_h hO h (by subst hO; rfl) (fun hc9 h => ?_) (fun hc9 h => ?_)
            · conv => cbv
              refine br_t hO hc9 ?_
              conv => cbv
              refine br_t hO hc9 ?_
              conv => cbv
              refine br_t hO hc9 ?_
              conv => cbv
              refine br_t hO hc9 ?_
              conv => cbv
              refine br_t hO hc9 ?_
              conv => cbv
              refine br_t hO hc9 ?_
              conv => cbv
              refine br_t hO rfl ?_
              conv => cbv
              refine br_t hO rfl ?_
              conv => cbv
              refine br_t hO rfl ?_
              conv => cbv
              refine br_t hO rfl ?_
              conv => cbv
              refine br_t hO rfl ?_
              conv => cbv
              refine br_t hO rfl ?_
              conv => cbv
              refine br_t hO rfl ?_
              conv => cbv
              refine br_t hO rfl ?_
              conv => cbv
              refine br_t hO rfl ?_
              conv => cbv
              refine br_t hO rfl ?_
              conv => cbv
              refine br_t hO rfl ?_
              conv => cbv
              refine br_t hO rfl ?_
              conv => cbv
              refine br_t hO rfl ?_
              conv => cbv
              refine br_t hO rfl ?_
              conv => cbv
              refine br_t hO rfl ?_
              conv => cbv
              exact hL_3 _ _ ⟨true, ⟨(by (conv => lhs; cbv) <;> (subst hO; rfl)), (by (conv => lhs; cbv) <;> (subst hO; rfl))⟩, h⟩
            · conv => cbv
              refine br_f hO hc9 ?_
              conv => cbv
              refine br_f hO hc9 ?_
              conv => cbv
              refine br_f hO hc9 ?_
              conv => cbv
              refine br_f hO hc9 ?_
              conv => cbv
              refine call_h hO [.shut, .shut] (d_p19 fu O.len hN h) ?_
              intro os Q hos hQ
              conv => cbv
              refine ⟨(by (rw [hos]) <;> (subst hO; rfl)), ?_⟩
              intro r bs hq
              rw [hQ] at hq
              clear hos hQ h
              obtain ⟨y29, _, _, ⟨rfl, rfl⟩, h⟩ := hq
              conv => cbv
              refine br_f hO hc9 ?_
              conv => cbv
              refine br_f hO hc9 ?_
              conv => cbv
              refine br_h hO h (by subst hO; rfl) (fun hc10 h => ?_) (fun hc10 h => ?_)
              · conv => cbv
                refine br_t hO hc10 ?_
                conv => cbv
                refine br_t hO hc10 ?_
                conv => cbv
                refine br_t hO hc10 ?_
                conv => cbv
                refine br_t hO hc10 ?_
                conv => cbv
                refine br_t hO hc10 ?_
                conv => cbv
                refine br_t hO hc10 ?_
                conv => cbv
                refine br_t hO rfl ?_
                conv => cbv
                refine br_t hO rfl ?_
                conv => cbv
                refine br_t hO rfl ?_
                conv => cbv
                refine br_t hO rfl ?_
                conv => cbv
                refine br_t hO rfl ?_
                conv => cbv
                refine br_t hO rfl ?_
                conv => cbv
                refine br_t hO rfl ?_
                conv => cbv
                refine br_t hO rfl ?_
                conv => cbv
                exact hL_3 _ _ ⟨true, ⟨(by (conv => lhs; cbv) <;> (subst hO; rfl)), (by (conv => lhs; cbv) <;> (subst hO; rfl))⟩, h⟩
              · conv => cbv
                refine br_f hO hc10 ?_
                conv => cbv
                refine br_f hO hc10 ?_
                conv => cbv
                refine br_f hO hc10 ?_
                conv => cbv
                refine br_f hO hc10 ?_
                conv => cbv
                refine call_h hO [.shut, .shut] (d_p19 fu O.len hN h) ?_
                intro os Q hos hQ
                conv => cbv
                refine ⟨(by (rw [hos]) <;> (subst hO; rfl)), ?_⟩
                intro r bs hq
                rw [hQ] at hq
                clear hos hQ h
                obtain ⟨y30, _, _, ⟨rfl, rfl⟩, h⟩ := hq
                conv => cbv
                refine br_f hO hc10 ?_
                conv => cbv
                refine br_f hO hc10 ?_
                conv => cbv
                refine br_h hO h (by subst hO; rfl) (fun hc11 h => ?_) (fun hc11 h => ?_)
                · conv => cbv
                  refine br_t hO hc11 ?_
                  conv => cbv
                  refine br_t hO hc11 ?_
                  conv => cbv
                  refine br_t hO hc11 ?_
                  conv => cbv
                  refine br_t hO hc11 ?_
                  conv => cbv
                  refine br_t hO hc11 ?_
                  conv => cbv
                  refine br_t hO hc11 ?_
                  conv => cbv
                  refine br_t hO hc11 ?_
                  conv => cbv
                  exact hL_3 _ _ ⟨true, ⟨(by (conv => lhs; cbv) <;> (subst hO; rfl)), (by (conv => lhs; cbv) <;> (subst hO; rfl))⟩, h⟩
                · conv => cbv
                  refine br_f hO hc11 ?_
                  conv => cbv
                  refine br_f hO hc11 ?_
                  conv => cbv
                  refine br_f hO hc11 ?_
                  conv => cbv
                  refine br_f hO hc11 ?_
                  conv => cbv
                  refine br_f hO hc11 ?_
                  conv => cbv
                  refine br_f hO hc11 ?_
                  conv => cbv
                  refine br_f hO hc11 ?_
                  conv => cbv
                  exact hL_3 _ _ ⟨(cmpStd .neq ((x15.length : Nat) : Int) ((x31.length : Nat) : Int)), ⟨(by (conv => lhs; cbv) <;> (subst hO; rfl)), (by (conv => lhs; cbv) <;> (subst hO; rfl))⟩, h⟩
  · rintro tm m ⟨j1, hs, h⟩
    unfold p38_3 at h
    obtain ⟨rfl, rfl⟩ := hs
    conv => cbv
    refine br_h hO h (by subst hO; rfl) (fun hc1 h => ?_) (fun hc1 h => ?_)
    · conv => cbv
      rw [hQ]
      exact ⟨false, _, _, ⟨(by subst hO; rfl), (by subst hO; rfl)⟩, h⟩
    · conv => cbv
      refine join_all hO ?_
      conv => cbv
      refine loop_of hO tiA [2, 3, 5] [3000, 4000] [] (fun (n : Nat) tm m => ∃ (z2 : Int), ((tm = frame 0 100 [(2, .p 3000 0 0), (3, .p 4000 0 0), (5, .c (.v (.int .i64 z2)))] ∧ m = ⟨[(3000, .blk 0 [.c (.v (.int .i64 x0)), .c (.v (.int .i64 x1)), .c (.v (.int .i64 x2)), .c (.v (.string x3)), .c (.v (.string x4)), .c (.v (.int .i64 x5)), .c (.v (.int .i64 x6)), .c (.v (.string x7)), .c (.sl 3 x8 none), .c (.sl 5 x9 none), .c (.v (.int .i64 x10)), .c (.v (.int .i64 x11)), .c (.v (.string x12)), .c (.sl 3 x13 none), .c (.sl 5 x14 none), .c (.sl 6 x15 none)]), (4000, .blk 0 [.c (.v (.int .i64 x16)), .c (.v (.int .i64 x17)), .c (.v (.int .i64 x18)), .c (.v (.string x19)), .c (.v (.string x20)), .c (.v (.int .i64 x21)), .c (.v (.int .i64 x22)), .c (.v (.string x23)), .c (.sl 3 x24 none), .c (.sl 5 x25 none), .c (.v (.int .i64 x26)), .c (.v (.int .i64 x27)), .c (.v (.string x28)), .c (.sl 3 x29 none), .c (.sl 5 x30 none), .c (.sl 6 x31 none)])], 1⟩)) ∧ p38_2L False fu  K0 x15 x31 n z2) (fun n => n) fu ⟨0, ⟨(by (conv => lhs; cbv) <;> (subst hO; rfl)), (by (conv => lhs; cbv) <;> (subst hO; rfl))⟩, h⟩ ?_
      rintro n1 tm m L ⟨z2, hs, h⟩ hLn1
      cases n1 with
      | zero => rw [p38_2L] at h; exact h.elim
      | succ n1 =>
        rw [p38_2L] at h
        unfold p38_2 at h
        obtain ⟨rfl, rfl⟩ := hs
        conv => cbv
        refine br_h hO h (by subst hO; rfl) (fun hc2 h => ?_) (fun hc2 h => ?_)
        · conv => cbv
          refine join_all hO ?_
          conv => cbv
          refine drawn_join hO tiA [[], []] [(0, true, false), (1, true, false), (2, true, false), (3, true, false), (4, true, false), (5, true, false), (6, true, false), (7, true, false), (8, true, false), (9, true, false), (10, true, false), (11, true, false), (12, true, false), (13, true, false), (14, true, false), (15, true, false), (16, true, false), (17, true, false), (18, true, false), (19, true, false), (20, true, false), (21, true, false), (22, true, false), (23, true, false), (24, true, false), (25, true, false), (26, false, false), (27, true, false), (28, true, false)] (by kernel_rfl) [2, 3, 5, 99] [3000, 4000] [] (fun tm m => ∃ (j3 : Bool), ((tm = frame 0 100 [(2, .p 3000 0 0), (3, .p 4000 0 0), (5, .c (.v (.int .i64 z2))), (99, .c (.v (.bool j3)))] ∧ m = ⟨[(3000, .blk 0 [.c (.v (.int .i64 x0)), .c (.v (.int .i64 x1)), .c (.v (.int .i64 x2)), .c (.v (.string x3)), .c (.v (.string x4)), .c (.v (.int .i64 x5)), .c (.v (.int .i64 x6)), .c (.v (.string x7)), .c (.sl 3 x8 none), .c (.sl 5 x9 none), .c (.v (.int .i64 x10)), .c (.v (.int .i64 x11)), .c (.v (.string x12)), .c (.sl 3 x13 none), .c (.sl 5 x14 none), .c (.sl 6 x15 none)]), (4000, .blk 0 [.c (.v (.int .i64 x16)), .c (.v (.int .i64 x17)), .c (.v (.int .i64 x18)), .c (.v (.string x19)), .c (.v (.string x20)), .c (.v (.int .i64 x21)), .c (.v (.int .i64 x22)), .c (.v (.string x23)), .c (.sl 3 x24 none), .c (.sl 5 x25 none), .c (.v (.int .i64 x26)), .c (.v (.int .i64 x27)), .c (.v (.string x28)), .c (.sl 3 x29 none), .c (.sl 5 x30 none), .c (.sl 6 x31 none)])], 1⟩)) ∧ p38_1 False fu  K0 (p38_2L False fu  K0  x15 x31 n1) z2 j3) (fun L hL_1 => ?_) ?_
          · conv => cbv
            refine and_h h (fun g => (by subst hO; exact g)) (fun h => ?_)
            refine and_h h (fun g => (by subst hO; exact g)) (fun h => ?_)
            obtain ⟨c4, c5, c6, c7, c8, c9, hr, h⟩ := rw_s_i64_i64_s_l3_l5_inv h
            refine elem_of hO _ (by subst hO; exact hr) ?_
            clear hr
            conv => cbv
            refine and_h h (fun g => (by subst hO; exact g)) (fun h => ?_)
            refine and_h h (fun g => (by subst hO; exact g)) (fun h => ?_)
            obtain ⟨c10, c11, c12, c13, c14, c15, hr, h⟩ := rw_s_i64_i64_s_l3_l5_inv h
            refine elem_of hO _ (by subst hO; exact hr) ?_
            clear hr
            conv => cbv
            refine br_h hO h (by subst hO; rfl) (fun hc4 h => ?_) (fun hc4 h => ?_)
            · conv => cbv
              refine br_t hO hc4 ?_
              conv => cbv
              refine br_t hO hc4 ?_
              conv => cbv
              refine br_t hO hc4 ?_
              conv => cbv
              refine br_t hO hc4 ?_
              conv => cbv
              refine br_t hO hc4 ?_
              conv => cbv
              refine br_t hO hc4 ?_
              conv => cbv
              refine br_t hO hc4 ?_
              conv => cbv
              refine br_t hO hc4 ?_
              conv => cbv
              refine br_t hO hc4 ?_
              conv => cbv
              refine br_t hO hc4 ?_
              conv => cbv
              refine br_t hO hc4 ?_
              conv => cbv
              refine br_t hO hc4 ?_
              conv => cbv
              refine br_t hO hc4 ?_
              conv => cbv
              refine br_t hO hc4 ?_
              conv => cbv
              exact hL_1 _ _ ⟨true, ⟨(by (conv => lhs; cbv) <;> (subst hO; rfl)), (by (conv => lhs; cbv) <;> (subst hO; rfl))⟩, h⟩
            · conv => cbv
              refine br_f hO hc4 ?_
              conv => cbv
              refine br_f hO hc4 ?_
              conv => cbv
              refine br_f hO hc4 ?_
              conv => cbv
              refine and_h h (fun g => (by subst hO; exact g)) (fun h => ?_)
              refine and_h h (fun g => (by subst hO; exact g)) (fun h => ?_)
              obtain ⟨c16, c17, c18, c19, c20, c21, hr, h⟩ := rw_s_i64_i64_s_l3_l5_inv h
              refine elem_of hO _ (by subst hO; exact hr) ?_
              clear hr
              conv => cbv
              refine br_f hO hc4 ?_
              conv => cbv
              refine br_f hO hc4 ?_
              conv => cbv
              refine br_f hO hc4 ?_
              conv => cbv
              refine br_f hO hc4 ?_
              conv => cbv
              refine br_f hO hc4 ?_
              conv => cbv
              refine br_f hO hc4 ?_
              conv => cbv
              refine and_h h (fun g => (by subst hO; exact g)) (fun h => ?_)
              refine and_h h (fun g => (by subst hO; exact g)) (fun h => ?_)
              obtain ⟨c22, c23, c24, c25, c26, c27, hr, h⟩ := rw_s_i64_i64_s_l3_l5_inv h
              refine elem_of hO _ (by subst hO; exact hr) ?_
              clear hr
              conv => cbv
              refine br_f hO hc4 ?_
              conv => cbv
              refine br_f hO hc4 ?_
              conv => cbv
              refine br_f hO hc4 ?_
              conv => cbv
              refine call_h hO [.shut, .shut] (d_p19 fu O.len hN h) ?_
              intro os Q hos hQ
              conv => cbv
              refine ⟨(by (rw [hos]) <;> (subst hO; rfl)), ?_⟩
              intro r bs hq
              rw [hQ] at hq
              clear hos hQ h
              obtain ⟨y28, _, _, ⟨rfl, rfl⟩, h⟩ := hq
              conv => cbv
              refine ⟨agree_of hO (Nat.le_of_ble_eq_true rfl) rfl, ?_⟩
              refine br_f hO hc4 ?_
              conv => cbv
              refine br_f hO hc4 ?_
              conv => cbv
              exact hL_1 _ _ ⟨(!y28), ⟨(by (conv => lhs; cbv) <;> (subst hO; rfl)), (by (conv => lhs; cbv) <;> (subst hO; rfl))⟩, h⟩
          · rintro tm m ⟨j3, hs, h⟩
            unfold p38_1 at h
            obtain ⟨rfl, rfl⟩ := hs
            conv => cbv
            refine br_h hO h (by subst hO; rfl) (fun hc3 h => ?_) (fun hc3 h => ?_)
            · conv => cbv
              rw [hQ]
              exact ⟨false, _, _, ⟨(by subst hO; rfl), (by subst hO; rfl)⟩, h⟩
            · conv => cbv
              refine join_all hO ?_
              conv => cbv
              exact hLn1 n1 _ _ (Nat.lt_succ_self n1) ⟨binStd .add .i64 z2 1, ⟨(by (conv => lhs; cbv) <;> (subst hO; rfl)), (by (conv => lhs; cbv) <;> (subst hO; rfl))⟩, h⟩
        · conv => cbv
          rw [hQ]
          exact ⟨true, _, _, ⟨(by subst hO; rfl), (by subst hO; rfl)⟩, h⟩
end Go.Proofs.Ythncmjlcmlmnmaa

namespace Go.Proofs.Ythncmjlcmlmnmaa
open Go V
set_option maxRecDepth 100000
set_option maxHeartbeats 4000000
def p6_1 {ρ : Type} (fail : ρ) (fu : Nat)  (K0 : Bool → ρ)   (j66 : Bool) : ρ :=
  K0 j66
def p6_2 {ρ : Type} (fail : ρ) (fu : Nat)  (K0 : Bool → ρ)  (y2 : EL) (y4 : Nat) (y5 : Int) (y6 : Int) (y7 : EL) (y10 : Int) (y11 : Int) (y12 : EL) (y15 : Int) (y16 : Int) (y17 : ByteArray) (y18 : EL) (y19 : EL) (y22 : Int) (y23 : Int) (y24 : ByteArray) (y25 : EL) (y26 : EL) (y29 : Int) (y30 : Int) (y31 : Int) (y32 : ByteArray) (y33 : ByteArray) (y34 : Int) (y35 : Int) (y36 : ByteArray) (y37 : EL) (y38 : EL) (y39 : Int) (y40 : Int) (y41 : ByteArray) (y42 : EL) (y43 : EL) (y44 : EL) (y47 : Int) (y48 : Int) (y49 : Int) (y50 : ByteArray) (y51 : ByteArray) (y52 : Int) (y53 : Int) (y54 : ByteArray) (y55 : EL) (y56 : EL) (y57 : Int) (y58 : Int) (y59 : ByteArray) (y60 : EL) (y61 : EL) (y62 : EL) (j65 : Bool) : ρ :=
  gd (y4 ≤ y2.length) fail (bif j65 then (p37 fail fu (fun y67 => bif y67 then (p19 fail fu (fun y68 => bif y68 then (p38 fail fu (fun y69 => p6_1 fail fu  K0  y69) y29 y30 y31 y32 y33 y34 y35 y36 y37 y38 y39 y40 y41 y42 y43 y44 y47 y48 y49 y50 y51 y52 y53 y54 y55 y56 y57 y58 y59 y60 y61 y62) else (p6_1 fail fu  K0  false)) y15 y16 y17 y18 y19 y22 y23 y24 y25 y26) else (p6_1 fail fu  K0  false)) y5 y6 y7 y10 y11 y12) else (p6_1 fail fu  K0  false))
/-- law6.CodecReads -/
def p6 {ρ : Type} (fail : ρ) (fu : Nat)  (K0 : Bool → ρ) (x0 : EL) : ρ :=
  p13 fail fu (fun y1 => bif (!y1) then (K0 false) else (bif (cmpStd .gtr ((x0.length : Nat) : Int) 4000) then (K0 true) else (p25 fail fu (fun y2 y3 y4 => gd (y4 ≤ y2.length) fail (gd (u8E y2 = true) fail (p20 fail fu (fun y5 y6 y7 y8 y9 => gd (safeE y7 = true) fail (p33 fail fu (fun y10 y11 y12 y13 y14 => gd (y4 ≤ y2.length) fail (gd (u8E y2 = true) fail (p18 fail fu (fun y15 y16 y17 y18 y19 y20 y21 => gd (safeE y18 = true) fail (gd (safeE y19 = true) fail (p34 fail fu (fun y22 y23 y24 y25 y26 y27 y28 => gd (y4 ≤ y2.length) fail (gd (u8E y2 = true) fail (p35 fail fu (fun y29 y30 y31 y32 y33 y34 y35 y36 y37 y38 y39 y40 y41 y42 y43 y44 y45 y46 => gd (safeE y37 = true) fail (gd (safeE y38 = true) fail (gd (safeE y42 = true) fail (gd (safeE y43 = true) fail (gd (safeE y44 = true) fail (p36 fail fu (fun y47 y48 y49 y50 y51 y52 y53 y54 y55 y56 y57 y58 y59 y60 y61 y62 y63 y64 => bif (cmpStd .eql y8 y13) then (bif (cmpStd .eql y9 y14) then (bif (cmpStd .eql y20 y27) then (bif (cmpStd .eql y21 y28) then (bif (cmpStd .eql y45 y63) then (bif (cmpStd .eql y46 y64) then (gd (y4 ≤ y2.length) fail (gd (u8E y2 = true) fail (gd (y3 = y2.length) fail (gd (y4 < y2.length) fail (p31 fail fu (fun y70 => p6_2 fail fu  K0 y2 y4 y5 y6 y7 y10 y11 y12 y15 y16 y17 y18 y19 y22 y23 y24 y25 y26 y29 y30 y31 y32 y33 y34 y35 y36 y37 y38 y39 y40 y41 y42 y43 y44 y47 y48 y49 y50 y51 y52 y53 y54 y55 y56 y57 y58 y59 y60 y61 y62 y70) (List.take y4 y2) (List.drop y4 y2) x0))))) else (p6_2 fail fu  K0 y2 y4 y5 y6 y7 y10 y11 y12 y15 y16 y17 y18 y19 y22 y23 y24 y25 y26 y29 y30 y31 y32 y33 y34 y35 y36 y37 y38 y39 y40 y41 y42 y43 y44 y47 y48 y49 y50 y51 y52 y53 y54 y55 y56 y57 y58 y59 y60 y61 y62 false)) else (p6_2 fail fu  K0 y2 y4 y5 y6 y7 y10 y11 y12 y15 y16 y17 y18 y19 y22 y23 y24 y25 y26 y29 y30 y31 y32 y33 y34 y35 y36 y37 y38 y39 y40 y41 y42 y43 y44 y47 y48 y49 y50 y51 y52 y53 y54 y55 y56 y57 y58 y59 y60 y61 y62 false)) else (p6_2 fail fu  K0 y2 y4 y5 y6 y7 y10 y11 y12 y15 y16 y17 y18 y19 y22 y23 y24 y25 y26 y29 y30 y31 y32 y33 y34 y35 y36 y37 y38 y39 y40 y41 y42 y43 y44 y47 y48 y49 y50 y51 y52 y53 y54 y55 y56 y57 y58 y59 y60 y61 y62 false)) else (p6_2 fail fu  K0 y2 y4 y5 y6 y7 y10 y11 y12 y15 y16 y17 y18 y19 y22 y23 y24 y25 y26 y29 y30 y31 y32 y33 y34 y35 y36 y37 y38 y39 y40 y41 y42 y43 y44 y47 y48 y49 y50 y51 y52 y53 y54 y55 y56 y57 y58 y59 y60 y61 y62 false)) else (p6_2 fail fu  K0 y2 y4 y5 y6 y7 y10 y11 y12 y15 y16 y17 y18 y19 y22 y23 y24 y25 y26 y29 y30 y31 y32 y33 y34 y35 y36 y37 y38 y39 y40 y41 y42 y43 y44 y47 y48 y49 y50 y51 y52 y53 y54 y55 y56 y57 y58 y59 y60 y61 y62 false)) else (p6_2 fail fu  K0 y2 y4 y5 y6 y7 y10 y11 y12 y15 y16 y17 y18 y19 y22 y23 y24 y25 y26 y29 y30 y31 y32 y33 y34 y35 y36 y37 y38 y39 y40 y41 y42 y43 y44 y47 y48 y49 y50 y51 y52 y53 y54 y55 y56 y57 y58 y59 y60 y61 y62 false)) x0)))))) (List.take y4 y2)))) x0))) (List.take y4 y2)))) x0)) (List.take y4 y2)))) x0))) 
theorem d_p6 (fu : Nat)  {K0 : Bool → Prop} (L : EL → Nat) (hN : L = List.length) {x0 : EL} (h : p6 False fu K0 x0) : Den Try.prog G0 6 [.c (.sl 1 x0 none)] (fun r bs => (∃ (y0 : Bool) (o0 : OV), (r = .c (.v (.bool y0)) ∧ bs = [o0]) ∧ K0 y0)) := by
  obtain ⟨O, hO⟩ : ∃ O, O = std 0 T G0 (Den Try.prog G0) := ⟨_, rfl⟩
  have hLO : L = O.len := by rw [hN, hO]; rfl
  subst hLO
  refine den_h hO tiA mixed tabOk (fn := Try.f6) (sh := true) (by kernel_rfl) rfl rfl rfl rfl ?_
  intro Q hQ
  unfold p6 at h
  conv => cbv
  refine call_h hO [] (d_p13 fu O.len hN h) ?_
  intro os Q hos hQ
  conv => cbv
  refine ⟨(by (rw [hos]) <;> (subst hO; rfl)), ?_⟩
  intro r bs hq
  rw [hQ] at hq
  clear hos hQ h
  obtain ⟨y1, ⟨rfl, rfl⟩, h⟩ := hq
  conv => cbv
  refine br_h hO h (by subst hO; rfl) (fun hc1 h => ?_) (fun hc1 h => ?_)
  · conv => cbv
    rw [hQ]
    exact ⟨false, _, ⟨(by subst hO; rfl), (by subst hO; rfl)⟩, h⟩
  · conv => cbv
    refine join_all hO ?_
    conv => cbv
    refine br_h hO h (by subst hO; rfl) (fun hc2 h => ?_) (fun hc2 h => ?_)
    · conv => cbv
      rw [hQ]
      exact ⟨true, _, ⟨(by subst hO; rfl), (by subst hO; rfl)⟩, h⟩
    · conv => cbv
      refine join_all hO ?_
      conv => cbv
      refine call_h hO [.shut] (d_p25 fu O.len hN h) ?_
      intro os Q hos hQ
      conv => cbv
      refine ⟨(by (rw [hos]) <;> (subst hO; rfl)), ?_⟩
      intro r bs hq
      rw [hQ] at hq
      clear hos hQ h
      obtain ⟨y2, y3, y4, _, ⟨rfl, rfl⟩, h⟩ := hq
      conv => cbv
      refine alt_l hO ?_
      conv => cbv
      obtain ⟨hc3, h⟩ := gd_inv h
      obtain ⟨hc4, h⟩ := gd_inv h
      refine lend_h hO (d_p20 fu O.len hN h) ?_ ?_
      · subst hO; exact (lend_t rfl hc3 hc4 lend_nil)
      intro r bs hq
      clear h
      obtain ⟨y5, y6, y7, y8, y9, _, ⟨rfl, rfl⟩, h⟩ := hq
      obtain ⟨hc5, h⟩ := gd_inv h
      refine ⟨(by simp [safeO, safeOs, safeC, safeP, safeE, hc5]), ?_⟩
      conv => cbv
      refine call_h hO [.shut] (d_p33 fu O.len hN h) ?_
      intro os Q hos hQ
      conv => cbv
      refine ⟨(by (rw [hos]) <;> (subst hO; rfl)), ?_⟩
      intro r bs hq
      rw [hQ] at hq
      clear hos hQ h
      obtain ⟨y10, y11, y12, y13, y14, _, ⟨rfl, rfl⟩, h⟩ := hq
      conv => cbv
      refine alt_l hO ?_
      conv => cbv
      obtain ⟨hc6, h⟩ := gd_inv h
      obtain ⟨hc7, h⟩ := gd_inv h
      refine lend_h hO (d_p18 fu O.len hN h) ?_ ?_
      · subst hO; exact (lend_t rfl hc6 hc7 lend_nil)
      intro r bs hq
      clear h
      obtain ⟨y15, y16, y17, y18, y19, y20, y21, _, ⟨rfl, rfl⟩, h⟩ := hq
      obtain ⟨hc8, h⟩ := gd_inv h
      obtain ⟨hc9, h⟩ := gd_inv h
      refine ⟨(by simp [safeO, safeOs, safeC, safeP, safeE, hc8, hc9]), ?_⟩
      conv => cbv
      refine call_h hO [.shut] (d_p34 fu O.len hN h) ?_
      intro os Q hos hQ
      conv => cbv
      refine ⟨(by (rw [hos]) <;> (subst hO; rfl)), ?_⟩
      intro r bs hq
      rw [hQ] at hq
      clear hos hQ h
      obtain ⟨y22, y23, y24, y25, y26, y27, y28, _, ⟨rfl, rfl⟩, h⟩ := hq
      conv => cbv
      refine alt_l hO ?_
      conv => cbv
      obtain ⟨hc10, h⟩ := gd_inv h
      obtain ⟨hc11, h⟩ := gd_inv h
      refine lend_h hO (d_p35 fu O.len hN h) ?_ ?_
      · subst hO; exact (lend_t rfl hc10 hc11 lend_nil)
      intro r bs hq
      clear h
      obtain ⟨y29, y30, y31, y32, y33, y34, y35, y36, y37, y38, y39, y40, y41, y42, y43, y44, y45, y46, _, ⟨rfl, rfl⟩, h⟩ := hq
      obtain ⟨hc12, h⟩ := gd_inv h
      obtain ⟨hc13, h⟩ := gd_inv h
      obtain ⟨hc14, h⟩ := gd_inv h
      obtain ⟨hc15, h⟩ := gd_inv h
      obtain ⟨hc16, h⟩ := gd_inv h
      refine ⟨(by simp [safeO, safeOs, safeC, safeP, safeE, hc12, hc13, hc14, hc15, hc16]), ?_⟩
      conv => cbv
      refine call_h hO [.shut] (d_p36 fu O.len hN h) ?_
      intro os Q hos hQ
      conv => cbv
      refine ⟨(by (rw [hos]) <;> (subst hO; rfl)), ?_⟩
      intro r bs hq
      rw [hQ] at hq
      clear hos hQ h
      obtain ⟨y47, y48, y49, y50, y51, y52, y53, y54, y55, y56, y57, y58, y59, y60, y61, y62, y63, y64, _, ⟨rfl, rfl⟩, h⟩ := hq
      conv => cbv
      refine reg_join hO tiA [3, 4, 7, 10, 13, 16, 19, 22] [5000, 8000, 11000, 14000, 17000, 20000, 30000] [] (fun tm m => ∃ (j65 : Bool), ((tm = frame 0 117 [(3, .t 30000 0 y4), (4, .p 5000 0 0), (7, .p 8000 0 0), (10, .p 11000 0 0), (13, .p 14000 0 0), (16, .p 17000 0 0), (19, .p 20000 0 0), (22, .c (.v (.bool j65)))] ∧ m = ⟨[(5000, .blk 0 [.c (.v (.int .i64 y5)), .c (.v (.int .i64 y6)), .c (.sl 3 y7 none)]), (8000, .blk 0 [.c (.v (.int .i64 y10)), .c (.v (.int .i64 y11)), .c (.sl 3 y12 none)]), (11000, .blk 0 [.c (.v (.int .i64 y15)), .c (.v (.int .i64 y16)), .c (.v (.string y17)), .c (.sl 3 y18 none), .c (.sl 5 y19 none)]), (14000, .blk 0 [.c (.v (.int .i64 y22)), .c (.v (.int .i64 y23)), .c (.v (.string y24)), .c (.sl 3 y25 none), .c (.sl 5 y26 none)]), (17000, .blk 0 [.c (.v (.int .i64 y29)), .c (.v (.int .i64 y30)), .c (.v (.int .i64 y31)), .c (.v (.string y32)), .c (.v (.string y33)), .c (.v (.int .i64 y34)), .c (.v (.int .i64 y35)), .c (.v (.string y36)), .c (.sl 3 y37 none), .c (.sl 5 y38 none), .c (.v (.int .i64 y39)), .c (.v (.int .i64 y40)), .c (.v (.string y41)), .c (.sl 3 y42 none), .c (.sl 5 y43 none), .c (.sl 6 y44 none)]), (20000, .blk 0 [.c (.v (.int .i64 y47)), .c (.v (.int .i64 y48)), .c (.v (.int .i64 y49)), .c (.v (.string y50)), .c (.v (.string y51)), .c (.v (.int .i64 y52)), .c (.v (.int .i64 y53)), .c (.v (.string y54)), .c (.sl 3 y55 none), .c (.sl 5 y56 none), .c (.v (.int .i64 y57)), .c (.v (.int .i64 y58)), .c (.v (.string y59)), .c (.sl 3 y60 none), .c (.sl 5 y61 none), .c (.sl 6 y62 none)]), (30000, .arr 0 1 y2 (some y3) false)], 1⟩)) ∧ p6_2 False fu  K0 y2 y4 y5 y6 y7 y10 y11 y12 y15 y16 y17 y18 y19 y22 y23 y24 y25 y26 y29 y30 y31 y32 y33 y34 y35 y36 y37 y38 y39 y40 y41 y42 y43 y44 y47 y48 y49 y50 y51 y52 y53 y54 y55 y56 y57 y58 y59 y60 y61 y62 j65) (fun L hL_2 => ?_) ?_
      · conv => cbv
        refine br_h hO h (by subst hO; rfl) (fun hc21 h => ?_) (fun hc21 h => ?_)
        · conv => cbv
          refine br_t hO hc21 ?_
          conv => cbv
          refine br_t hO hc21 ?_
          conv => cbv
          refine br_t hO hc21 ?_
          conv => cbv
          refine br_h hO h (by subst hO; rfl) (fun hc22 h => ?_) (fun hc22 h => ?_)
          · conv => cbv
            refine br_t hO hc22 ?_
            conv => cbv
            refine br_t hO hc22 ?_
            conv => cbv
            refine br_t hO hc22 ?_
            conv => cbv
            refine br_h hO h (by subst hO; rfl) (fun hc23 h => ?_) (fun hc23 h => ?_)
            · conv => cbv
              refine br_t hO hc23 ?_
              conv => cbv
              refine br_t hO hc23 ?_
              conv => cbv
              refine br_t hO hc23 ?_
              conv => cbv
              refine br_h hO h (by subst hO; rfl) (fun hc24 h => ?_) (fun hc24 h => ?_)
              · conv => cbv
                refine br_t hO hc24 ?_
                conv => cbv
                refine br_t hO hc24 ?_
                conv => cbv
                refine br_t hO hc24 ?_
                conv => cbv
                refine br_h hO h (by subst hO; rfl) (fun hc25 h => ?_) (fun hc25 h => ?_)
                · conv => cbv
                  refine br_t hO hc25 ?_
                  conv => cbv
                  refine br_t hO hc25 ?_
                  conv => cbv
                  refine br_t hO hc25 ?_
                  conv => cbv
                  refine br_h hO h (by subst hO; rfl) (fun hc26 h => ?_) (fun hc26 h => ?_)
                  · conv => cbv
                    refine br_t hO hc26 ?_
                    conv => cbv
                    refine br_t hO hc26 ?_
                    conv => cbv
                    obtain ⟨hc27, h⟩ := gd_inv h
                    obtain ⟨hc28, h⟩ := gd_inv h
                    obtain ⟨hc29, h⟩ := gd_inv h
                    obtain ⟨hc30, h⟩ := gd_inv h
                    refine lend_h hO (d_p31 fu O.len hN h) ?_ ?_
                    · subst hO; exact (lend_f rfl hc27 hc28 hc29 hc30 (lend_c rfl lend_nil))
                    intro r bs hq
                    clear h
                    obtain ⟨y70, _, _, ⟨rfl, rfl⟩, h⟩ := hq
                    refine ⟨(by simp [safeO, safeOs, safeC, safeP, safeE]), ?_⟩
                    conv => cbv
                    refine br_t hO hc26 ?_
                    conv => cbv
                    exact hL_2 _ _ ⟨y70, ⟨(by (conv => lhs; cbv) <;> (subst hO; rfl)), (by (conv => lhs; cbv) <;> (subst hO; rfl))⟩, h⟩
                  · conv => cbv
                    refine br_f hO hc26 ?_
                    conv => cbv
                    refine br_f hO hc26 ?_
                    conv => cbv
                    refine br_f hO hc26 ?_
                    conv => cbv
                    exact hL_2 _ _ ⟨false, ⟨(by (conv => lhs; cbv) <;> (subst hO; rfl)), (by (conv => lhs; cbv) <;> (subst hO; rfl))⟩, h⟩
                · conv => cbv
                  refine br_f hO hc25 ?_
                  conv => cbv
                  refine br_f hO hc25 ?_
                  conv => cbv
                  refine br_f hO hc25 ?_
                  conv => cbv
                  refine br_f hO rfl ?_
                  conv => cbv
                  refine br_f hO rfl ?_
                  conv => cbv
                  refine br_f hO rfl ?_
                  conv => cbv
                  refine br_f hO rfl ?_
                  conv => cbv
                  exact hL_2 _ _ ⟨false, ⟨(by (conv => lhs; cbv) <;> (subst hO; rfl)), (by (conv => lhs; cbv) <;> (subst hO; rfl))⟩, h⟩
              · conv => cbv
                refine br_f hO hc24 ?_
                conv => cbv
                refine br_f hO hc24 ?_
                conv => cbv
                refine br_f hO hc24 ?_
                conv => cbv
                refine br_f hO rfl ?_
                conv => cbv
                refine br_f hO rfl ?_
                conv => cbv
                refine br_f hO rfl ?_
                conv => cbv
                refine br_f hO rfl ?_
                conv => cbv
                refine br_f hO rfl ?_
                conv => cbv
                refine br_f hO rfl ?_
                conv => cbv
                refine br_f hO rfl ?_
                conv => cbv
                refine br_f hO rfl ?_
                conv => cbv
                exact hL_2 _ _ ⟨false, ⟨(by (conv => lhs; cbv) <;> (subst hO; rfl)), (by (conv => lhs; cbv) <;> (subst hO; rfl))⟩, h⟩
            · conv => cbv
              refine br_f hO hc23 ?_
              conv => cbv
              refine br_f hO hc23 ?_
              conv => cbv
              refine br_f hO hc23 ?_
              conv => cbv
              refine br_f hO rfl ?_
              conv => cbv
              refine br_f hO rfl ?_
              conv => cbv
              refine br_f hO rfl ?_
              conv => cbv
              refine br_f hO rfl ?_
              conv => cbv
              refine br_f hO rfl ?_
              conv => cbv
              refine br_f hO rfl ?_
              conv => cbv
              refine br_f hO rfl ?_
              conv => cbv
              refine br_f hO rfl ?_
              conv => cbv
              refine br_f hO rfl ?_
              conv => cbv
              refine br_f hO rfl ?_
              conv => cbv
              refine br_f hO rfl ?_
              conv => cbv
              refine br_f hO rfl ?_
              conv => cbv
              exact hL_2 _ _ ⟨false, ⟨(by (conv => lhs; cbv) <;> (subst hO; rfl)), (by (conv => lhs; cbv) <;> (subst hO; rfl))⟩, h⟩
          · conv => cbv
            refine br_f hO hc22 ?_
            conv => cbv
            refine br_f hO hc22 ?_
            conv => cbv
            refine br_f hO hc22 ?_
            conv => cbv
            refine br_f hO rfl ?_
            conv => cbv
            refine br_f hO rfl ?_
            conv => cbv
            refine br_f hO rfl ?_
            conv => cbv
            refine br_f hO rfl ?_
            conv => cbv
            refine br_f hO rfl ?_
            conv => cbv
            refine br_f hO rfl ?_
            conv => cbv
            refine br_f hO rfl ?_
            conv => cbv
            refine br_f hO rfl ?_
            conv => cbv
            refine br_f hO rfl ?_
            conv => cbv
            refine br_f hO rfl ?_
            conv => cbv
            refine br_f hO rfl ?_
            conv => cbv
            refine br_f hO rfl ?_
            conv => cbv
            refine br_f hO rfl ?_
            conv => cbv
            refine br_f hO rfl ?_
            conv => cbv
            refine br_f hO rfl ?_
            conv => cbv
            refine br_f hO rfl ?_
            conv => cbv
            exact hL_2 _ _ ⟨false, ⟨(by (conv => lhs; cbv) <;> (subst hO; rfl)), (by (conv => lhs; cbv) <;> (subst hO; rfl))⟩, h⟩
        · conv => cbv
          refine br_f hO hc21 ?_
          conv => cbv
          refine br_f hO hc21 ?_
          conv => cbv
          refine br_f hO hc21 ?_
          conv => cbv
          refine br_f hO rfl ?_
          conv => cbv
          refine br_f hO rfl ?_
          conv => cbv
          refine br_f hO rfl ?_
          conv => cbv
          refine br_f hO rfl ?_
          conv => cbv
          refine br_f hO rfl ?_
          conv => cbv
          refine br_f hO rfl ?_
          conv => cbv
          refine br_f hO rfl ?_
          conv => cbv
          refine br_f hO rfl ?_
          conv => cbv
          refine br_f hO rfl ?_
          conv => cbv
          refine br_f hO rfl ?_
          conv => cbv
          refine br_f hO rfl ?_
          conv => cbv
          refine br_f hO rfl ?_
          conv => cbv
          refine br_f hO rfl ?_
          conv => cbv
          refine br_f hO rfl ?_
          conv => cbv
          refine br_f hO rfl ?_
          conv => cbv
          refine br_f hO rfl ?_
          conv => cbv
          refine br_f hO rfl ?_
          conv => cbv
          refine br_f hO rfl ?_
          conv => cbv
          refine br_f hO rfl ?_
          conv => cbv
          refine br_f hO rfl ?_
          conv => cbv
          exact hL_2 _ _ ⟨false, ⟨(by (conv => lhs; cbv) <;> (subst hO; rfl)), (by (conv => lhs; cbv) <;> (subst hO; rfl))⟩, h⟩
      · rintro tm m ⟨j65, hs, h⟩
        unfold p6_2 at h
        obtain ⟨rfl, rfl⟩ := hs
        conv => cbv
        refine alt_l hO ?_
        conv => cbv
        obtain ⟨hc20, h⟩ := gd_inv h
        refine call_h hO [.own] (spoil_den y2 (some y3) y4) ?_
        intro os Q hos hQ
        conv => cbv
        refine ⟨(by subst hO; exact hc20), ?_⟩
        refine ⟨(by (rw [hos]) <;> (subst hO; rfl)), ?_⟩
        intro r bs hq
        rw [hQ] at hq
        clear hos hQ
        obtain ⟨_, rfl, rfl⟩ := hq
        conv => cbv
        refine reg_join hO tiA [2] [] [] (fun tm m => ∃ (j66 : Bool), ((tm = frame 0 117 [(2, .c (.v (.bool j66)))] ∧ m = ⟨[], 1⟩)) ∧ p6_1 False fu  K0  j66) (fun L hL_1 => ?_) ?_
        · conv => cbv
          refine br_h hO h (by subst hO; rfl) (fun hc17 h => ?_) (fun hc17 h => ?_)
          · conv => cbv
            refine br_t hO hc17 ?_
            conv => cbv
            refine br_t hO hc17 ?_
            conv => cbv
            refine call_h hO [.shut, .shut] (d_p37 fu O.len hN h) ?_
            intro os Q hos hQ
            conv => cbv
            refine ⟨(by (rw [hos]) <;> (subst hO; rfl)), ?_⟩
            intro r bs hq
            rw [hQ] at hq
            clear hos hQ h
            obtain ⟨y67, _, _, ⟨rfl, rfl⟩, h⟩ := hq
            conv => cbv
            refine br_t hO hc17 ?_
            conv => cbv
            refine br_h hO h (by subst hO; rfl) (fun hc18 h => ?_) (fun hc18 h => ?_)
            · conv => cbv
              refine br_t hO hc18 ?_
              conv => cbv
              refine br_t hO hc18 ?_
              conv => cbv
              refine call_h hO [.shut, .shut] (d_p19 fu O.len hN h) ?_
              intro os Q hos hQ
              conv => cbv
              refine ⟨(by (rw [hos]) <;> (subst hO; rfl)), ?_⟩
              intro r bs hq
              rw [hQ] at hq
              clear hos hQ h
              obtain ⟨y68, _, _, ⟨rfl, rfl⟩, h⟩ := hq
              conv => cbv
              refine br_t hO hc18 ?_
              conv => cbv
              refine br_h hO h (by subst hO; rfl) (fun hc19 h => ?_) (fun hc19 h => ?_)
              · conv => cbv
                refine br_t hO hc19 ?_
                conv => cbv
                refine br_t hO hc19 ?_
                conv => cbv
                refine call_h hO [.shut, .shut] (d_p38 fu O.len hN h) ?_
                intro os Q hos hQ
                conv => cbv
                refine ⟨(by (rw [hos]) <;> (subst hO; rfl)), ?_⟩
                intro r bs hq
                rw [hQ] at hq
                clear hos hQ h
                obtain ⟨y69, _, _, ⟨rfl, rfl⟩, h⟩ := hq
                conv => cbv
                refine br_t hO hc19 ?_
                conv => cbv
                exact hL_1 _ _ ⟨y69, ⟨(by (conv => lhs; cbv) <;> (subst hO; rfl)), (by (conv => lhs; cbv) <;> (subst hO; rfl))⟩, h⟩
              · conv => cbv
                refine br_f hO hc19 ?_
                conv => cbv
                refine br_f hO hc19 ?_
                conv => cbv
                refine br_f hO hc19 ?_
                conv => cbv
                exact hL_1 _ _ ⟨false, ⟨(by (conv => lhs; cbv) <;> (subst hO; rfl)), (by (conv => lhs; cbv) <;> (subst hO; rfl))⟩, h⟩
            · conv => cbv
              refine br_f hO hc18 ?_
              conv => cbv
              refine br_f hO hc18 ?_
              conv => cbv
              refine br_f hO hc18 ?_
              conv => cbv
              refine br_f hO rfl ?_
              conv => cbv
              refine br_f hO rfl ?_
              conv => cbv
              refine br_f hO rfl ?_
              conv => cbv
              refine br_f hO rfl ?_
              conv => cbv
              exact hL_1 _ _ ⟨false, ⟨(by (conv => lhs; cbv) <;> (subst hO; rfl)), (by (conv => lhs; cbv) <;> (subst hO; rfl))⟩, h⟩
          · conv => cbv
            refine br_f hO hc17 ?_
            conv => cbv
            refine br_f hO hc17 ?_
            conv => cbv
            refine br_f hO hc17 ?_
            conv => cbv
            refine br_f hO rfl ?_
            conv => cbv
            refine br_f hO rfl ?_
            conv => cbv
            refine br_f hO rfl ?_
            conv => cbv
            refine br_f hO rfl ?_
            conv => cbv
            refine br_f hO rfl ?_
            conv => cbv
            refine br_f hO rfl ?_
            conv => cbv
            refine br_f hO rfl ?_
            conv => cbv
            refine br_f hO rfl ?_
            conv => cbv
            exact hL_1 _ _ ⟨false, ⟨(by (conv => lhs; cbv) <;> (subst hO; rfl)), (by (conv => lhs; cbv) <;> (subst hO; rfl))⟩, h⟩
        · rintro tm m ⟨j66, hs, h⟩
          unfold p6_1 at h
          obtain ⟨rfl, rfl⟩ := hs
          conv => cbv
          rw [hQ]
          exact ⟨j66, _, ⟨(by subst hO; rfl), (by subst hO; rfl)⟩, h⟩
end Go.Proofs.Ythncmjlcmlmnmaa

namespace Go.Proofs.Ythncmjlcmlmnmaa
open Go V
set_option maxRecDepth 100000
set_option maxHeartbeats 2000000
theorem ct_row' {ρ : Type} (fail : ρ) (l : List (ByteArray × Tm)) (i : Nat) (h : i < l.length) (k : ByteArray → Int → Int → ByteArray → EL → EL → ρ) : rw_s_i64_i64_s_l3_l5 fail (List.getD (l.map ctRow) (((i : Nat) : Int)).toNat []) k = k l[i].1 l[i].2.k l[i].2.n l[i].2.nm (Lv.rows l[i].2.ls) (Tm.rows l[i].2.args) := ct_row fail l i h k
theorem cts_same {ρ : Type} (fail : ρ) (fu : Nat) (K : Bool → ρ) (l : List (ByteArray × Tm)) (hf : ctsSz l + 60 ≤ fu) (hs : ctsSz l < 1099511627776) : ∀ (r n i : Nat), i + r = l.length → r < n → p38_2L fail fu K (l.map ctRow) (l.map ctRow) n (i : Nat) = K true := by
  have hlen := ctsSz_len l
  intro r
  induction r with
  | zero =>
    intro n i hi hn
    obtain ⟨n, rfl⟩ : ∃ m, n = m + 1 := ⟨n - 1, by omega⟩
    rw [p38_2L, p38_2, List.length_map, lssF (by omega), cond_false]
  | succ r ih =>
    intro n i hi hn
    obtain ⟨n, rfl⟩ : ∃ m, n = m + 1 := ⟨n - 1, by omega⟩
    have hlt : i < l.length := by omega
    have hm := ctsSz_mem (List.getElem_mem hlt)
    rw [p38_2L, p38_2, List.length_map, lssT (by omega), cond_true, gd_y (by omega), gd_y (by omega), ct_row' fail l i hlt, gd_y (by omega), gd_y (by omega), ct_row' fail l i hlt, scmp_nrefl, cond_false, gd_y (by omega), gd_y (by omega), ct_row' fail l i hlt, gd_y (by omega), gd_y (by omega), ct_row' fail l i hlt,
      tm_same fail _ l[i].2 (Nat.le_refl _) fu _ (by omega) (by omega), Bool.not_true, p38_1, cond_false, addZ (by omega) (by omega), show ((i : Nat) : Int) + 1 = ((i + 1 : Nat) : Int) by omega]
    exact ih n (i + 1) (by omega) (by omega)
theorem dc_same {ρ : Type} (fail : ρ) (fu : Nat) (K : Bool → ρ) (d : Dc) (hf : d.sz + 60 ≤ fu) (hs : d.sz < 1099511627776) :
    p38 fail fu K d.k d.pa d.ct d.nm d.fam d.ty.k d.ty.n d.ty.nm (Lv.rows d.ty.ls) (Tm.rows d.ty.args) d.val.k d.val.n d.val.nm (Lv.rows d.val.ls) (Tm.rows d.val.args) (d.cs.map ctRow) d.k d.pa d.ct d.nm d.fam d.ty.k d.ty.n d.ty.nm (Lv.rows d.ty.ls) (Tm.rows d.ty.args) d.val.k d.val.n d.val.nm (Lv.rows d.val.ls) (Tm.rows d.val.args) (d.cs.map ctRow) = K true := by
  have hz : d.sz = d.nm.size + d.fam.size + d.ty.sz + d.val.sz + ctsSz d.cs := rfl
  have hlen := ctsSz_len d.cs
  have := cts_same fail fu K d.cs (by omega) (by omega) d.cs.length fu 0 (by omega) (by omega)
  rw [p38, neqF rfl, cond_false, neqF rfl, cond_false, neqF rfl, cond_false, scmp_nrefl, cond_false, scmp_nrefl, cond_false, tm_same fail _ d.ty (Nat.le_refl _) fu _ (by omega) (by omega), Bool.not_true, cond_false, tm_same fail _ d.val (Nat.le_refl _) fu _ (by omega) (by omega), Bool.not_true, cond_false, neqF rfl, p38_3, cond_false]
  exact this
theorem cts_safe : ∀ (l : List (ByteArray × Tm)), safeE (l.map ctRow) = true
  | [] => rfl
  | a :: l => by
    rw [List.map_cons, safeE, cts_safe l, ctRow]
    simp [safeR, isU8, safeC, safeP, Lv.safes, Tm.safes]
section
variable {ρ : Type} (fail : ρ) (fu : Nat) (bs : List UInt8) (hb : bs.length ≤ 4000) (hfu : 9000 ≤ fu)
include hb hfu
theorem lv_both : ∃ (k n : Int) (A : EL) (m e : Int), (∀ K, p20 fail fu K (encB bs) = K k n A m e) ∧ (∀ K, p33 fail fu K (encB bs) = K k n A m e) ∧ safeE A = true ∧ ∀ K : Bool → ρ, p37 fail fu K k n A k n A = K true := by
  have h2 := rLevel_rd (ρ := ρ) fail fu bs (by omega) (by omega) bs (Sfx.refl bs)
  have h0 : atR bs bs = 0 := by unfold atR; rw [Nat.sub_self]; rfl
  rw [h0] at h2
  rcases takeLevel_eq (ρ := ρ) fail fu (by omega) bs (by omega) with ⟨l, r, g1, g2, g3⟩ | ⟨e, g1, g2, g3⟩
  · rw [g1] at h2
    have hl : bs.length = l.enc.length + r.length := by rw [g2, List.length_append]
    have hsz := Lv.sz_enc l
    refine ⟨l.k, l.n, Lv.rows l.args, _, 0, g3, fun K => ?_, lv_safes _ (fun a _ => Lv.safe a), fun K => lv_same fail _ l (Nat.le_refl _) fu K (by omega) (by omega)⟩
    dsimp only [LvO5] at h2
    rw [p33, h2, neqF rfl, cond_false]
    congr 1
    unfold atR; omega
  · rw [g1] at h2
    obtain ⟨_, a, b, c, B, at', h2⟩ := h2
    dsimp only at h2
    refine ⟨0, 0, nilE, 0, e, g3, fun K => ?_, rfl, fun K => lv_same fail _ (.mk 0 0 []) (Nat.le_refl _) fu K (by show 1 + _ + 20 ≤ _; simp [Lv.szs]; omega) (by decide)⟩
    rw [p33, h2, neqT g2, cond_true]
theorem tm_both : ∃ (k n : Int) (s : ByteArray) (L A : EL) (m e : Int), (∀ K, p18 fail fu K (encB bs) = K k n s L A m e) ∧ (∀ K, p34 fail fu K (encB bs) = K k n s L A m e) ∧ safeE L = true ∧ safeE A = true ∧ ∀ K : Bool → ρ, p19 fail fu K k n s L A k n s L A = K true := by
  have h2 := rTerm_rd (ρ := ρ) fail fu bs (by omega) (by omega) bs (Sfx.refl bs)
  have h0 : atR bs bs = 0 := by unfold atR; rw [Nat.sub_self]; rfl
  rw [h0] at h2
  rcases takeTerm_eq (ρ := ρ) fail fu (by omega) bs (by omega) with ⟨t, r, g1, g2, g4, g3⟩ | ⟨e, g1, g2, g3⟩
  · rw [g1] at h2
    have hl : bs.length = t.enc.length + r.length := by rw [g2, List.length_append]
    refine ⟨t.k, t.n, t.nm, Lv.rows t.ls, Tm.rows t.args, _, 0, g3, fun K => ?_, lv_safes _ (fun a _ => Lv.safe a), Tm.safes _, fun K => tm_same fail _ t (Nat.le_refl _) fu K (by omega) (by omega)⟩
    dsimp only [TmO8] at h2
    rw [p34, h2, neqF rfl, cond_false]
    congr 1
    unfold atR; omega
  · rw [g1] at h2
    obtain ⟨_, a, b, c, l, g, B, at', h2⟩ := h2
    dsimp only at h2
    refine ⟨0, 0, ⟨#[]⟩, nilE, nilE, 0, e, g3, fun K => ?_, rfl, rfl, fun K => tm_same fail _ tm0 (Nat.le_refl _) fu K (by show 1 + 30 ≤ _; omega) (by decide)⟩
    rw [p34, h2, neqT g2, cond_true]
theorem dc_both : ∃ (d : Dc) (m e : Int), (∀ K, p35 fail fu K (encB bs) = K d.k d.pa d.ct d.nm d.fam d.ty.k d.ty.n d.ty.nm (Lv.rows d.ty.ls) (Tm.rows d.ty.args) d.val.k d.val.n d.val.nm (Lv.rows d.val.ls) (Tm.rows d.val.args) (d.cs.map ctRow) m e) ∧
    (∀ K, p36 fail fu K (encB bs) = K d.k d.pa d.ct d.nm d.fam d.ty.k d.ty.n d.ty.nm (Lv.rows d.ty.ls) (Tm.rows d.ty.args) d.val.k d.val.n d.val.nm (Lv.rows d.val.ls) (Tm.rows d.val.args) (d.cs.map ctRow) m e) ∧ d.sz ≤ 8000 := by
  let K9 : (DK19 ρ → ρ) := fun K => p77 fail fu K (encB bs) 0 0
  rcases takeDecl_eq (ρ := ρ) fail fu (by omega) bs (by omega) with ⟨d, r, g1, g2, g4, g3⟩ | ⟨e, g1, g2, g3⟩
  · have hl : bs.length = d.enc.length + r.length := by rw [g2, List.length_append]
    refine ⟨d, _, 0, g3, fun K => ?_, by omega⟩
    have := rDecl_rd fail fu (by omega) (fun y1 y2 y3 y4 y5 y6 y7 y8 y9 y10 y11 y12 y13 y14 y15 y16 _ y18 y19 => bif (cmpStd .neq y19 0) then (K 0 0 0 ⟨#[]⟩ ⟨#[]⟩ 0 0 ⟨#[]⟩ nilE nilE 0 0 ⟨#[]⟩ nilE nilE nilE 0 y19) else (K y1 y2 y3 y4 y5 y6 y7 y8 y9 y10 y11 y12 y13 y14 y15 y16 y18 0)) (fun e => K 0 0 0 ⟨#[]⟩ ⟨#[]⟩ 0 0 ⟨#[]⟩ nilE nilE 0 0 ⟨#[]⟩ nilE nilE nilE 0 e) (fun e he => by intros; rw [neqT he, cond_true]) bs (by omega)
    rw [g1] at this
    dsimp only at this
    rw [p36, this, neqF rfl, cond_false]
    congr 1
    unfold atR; omega
  · refine ⟨⟨0, 0, 0, ⟨#[]⟩, ⟨#[]⟩, tm0, tm0, []⟩, 0, e, g3, fun K => ?_, by show 0 + 0 + 1 + 1 + 0 ≤ _; omega⟩
    have := rDecl_rd fail fu (by omega) (fun y1 y2 y3 y4 y5 y6 y7 y8 y9 y10 y11 y12 y13 y14 y15 y16 _ y18 y19 => bif (cmpStd .neq y19 0) then (K 0 0 0 ⟨#[]⟩ ⟨#[]⟩ 0 0 ⟨#[]⟩ nilE nilE 0 0 ⟨#[]⟩ nilE nilE nilE 0 y19) else (K y1 y2 y3 y4 y5 y6 y7 y8 y9 y10 y11 y12 y13 y14 y15 y16 y18 0)) (fun e => K 0 0 0 ⟨#[]⟩ ⟨#[]⟩ 0 0 ⟨#[]⟩ nilE nilE 0 0 ⟨#[]⟩ nilE nilE nilE 0 e) (fun e he => by intros; rw [neqT he, cond_true]) bs (by omega)
    rw [g1] at this
    dsimp only at this
    rw [p36, this]
    rfl
end
theorem begun6_20000 (K : Bool → Prop) : p13 (ρ := Prop) False 20000 K = K true := by kernel_rfl
theorem codecReads_pure (b : List UInt8) : p6 (ρ := Prop) False 20000 (fun y => y = true) (encB b) := by
  rw [p6, begun6_20000, Bool.not_true, cond_false, encB_length]
  by_cases h0 : 4000 < b.length
  · rw [gtrT (by omega), cond_true]
  obtain ⟨a1, a2, a3, a4, a5, l1, l2, l3, l4⟩ := lv_both (ρ := Prop) False 20000 b (by omega) (by omega)
  obtain ⟨b1, b2, b3, b4, b5, b6, b7, t1, t2, t3, t4, t5⟩ := tm_both (ρ := Prop) False 20000 b (by omega) (by omega)
  obtain ⟨d, m, e, d1, d2, d3⟩ := dc_both (ρ := Prop) False 20000 b (by omega) (by omega)
  rw [gtrF (by omega), cond_false, twin_w _ _ (by omega) _ b (by omega), gd_y (by rw [twin_len]; omega), gd_y (u8E_enc _), twin_take, l1, gd_y l3, l2, gd_y (by rw [twin_len]; omega), gd_y (u8E_enc _), t1, gd_y t3, gd_y t4, t2, gd_y (by rw [twin_len]; omega), gd_y (u8E_enc _), d1,
    gd_y (lv_safes _ (fun a _ => Lv.safe a)), gd_y (Tm.safes _), gd_y (lv_safes _ (fun a _ => Lv.safe a)), gd_y (Tm.safes _), gd_y (cts_safe _), d2, eqlT rfl, cond_true, eqlT rfl, cond_true, eqlT rfl, cond_true, eqlT rfl, cond_true, eqlT rfl, cond_true, eqlT rfl, cond_true,
    gd_y (by rw [twin_len]; omega), gd_y (u8E_enc _), gd_y (by rw [twin_len]), gd_y (by rw [twin_len]; omega), twin_drop, kept_w _ _ (by omega) _ b (by omega), p6_2, gd_y (by rw [twin_len]; omega), cond_true, l4, cond_true, t5, cond_true, dc_same _ _ _ d (by omega) (by omega), p6_1]
end Go.Proofs.Ythncmjlcmlmnmaa

