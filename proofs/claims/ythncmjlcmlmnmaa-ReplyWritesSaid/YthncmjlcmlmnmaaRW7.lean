/- Functions without memory, and that the Go functions are followed by them. Printed by gen.py. Conditions: none. -/
import Derived.Test.YthncmjlcmlmnmaaG
import Derived.Test.YthncmjlcmlmnmaaPR
import Derived.Test.YthncmjlcmlmnmaaRW1
import Derived.Test.YthncmjlcmlmnmaaRW5
import Derived.Test.YthncmjlcmlmnmaaRW3
import Derived.Test.YthncmjlcmlmnmaaRW6
namespace Go.Proofs.Ythncmjlcmlmnmaa
open Go V
set_option maxRecDepth 100000
set_option maxHeartbeats 4000000
def p45_1 {ρ : Type} (fail : ρ) (fu : Nat)  (K0 : Int → Int → Int → Int → Int → Bool → Int → Int → ByteArray → EL → EL → Int → EL → Int → ρ)  (y1 : Int) (y4 : Int) (y7 : Int) (y10 : Int) (y13 : Int) (j21 : Bool) (j25 : Int) (j26 : Int) (j27 : ByteArray) (j28 : EL) (j29 : EL) (y30 : Int) (z40 : EL) (j47 : Bool) : ρ :=
  bif j47 then (K0 0 0 0 0 0 false 0 0 ⟨#[]⟩ nilE nilE 0 nilE 5) else (K0 y1 y4 y7 y10 y13 j21 j25 j26 j27 j28 j29 y30 z40 0)
def p45_2 {ρ : Type} (fail : ρ) (fu : Nat)  (K0 : Int → Int → Int → Int → Int → Bool → Int → Int → ByteArray → EL → EL → Int → EL → Int → ρ) (rec1 : EL → Int → EL → Int → ρ) (y1 : Int) (y4 : Int) (y7 : Int) (y10 : Int) (y13 : Int) (j21 : Bool) (j25 : Int) (j26 : Int) (j27 : ByteArray) (j28 : EL) (j29 : EL) (y30 : Int) (z38 : EL) (z39 : Int) (z40 : EL) (z41 : Int) (j42 : Bool) : ρ :=
  bif j42 then (p95 fail fu (fun y43 y44 y45 => tobP fail y43 (fun s46 => gd (1 ≤ [[(CV.v (.string s46))]].length) fail (gd ((z40.length + (List.take 1 [[(CV.v (.string s46))]]).length) * 16 ≤ 35184372088832) fail (rec1 y44 y45 (z40 ++ (List.take 1 [[(CV.v (.string s46))]])) (binStd .sub .i64 z41 1))))) z38 z39 24) else (bif (cmpStd .neq z39 0) then (p45_1 fail fu  K0 y1 y4 y7 y10 y13 j21 j25 j26 j27 j28 j29 y30 z40 true) else (p45_1 fail fu  K0 y1 y4 y7 y10 y13 j21 j25 j26 j27 j28 j29 y30 z40 (cmpStd .gtr ((z38.length : Nat) : Int) 0)))
def p45_3 {ρ : Type} (fail : ρ) (fu : Nat)  (K0 : Int → Int → Int → Int → Int → Bool → Int → Int → ByteArray → EL → EL → Int → EL → Int → ρ) (rec1 : EL → Int → EL → Int → ρ) (y1 : Int) (y4 : Int) (y7 : Int) (y10 : Int) (y13 : Int) (j21 : Bool) (j25 : Int) (j26 : Int) (j27 : ByteArray) (j28 : EL) (j29 : EL) (y30 : Int) (z38 : EL) (z39 : Int) (z40 : EL) (z41 : Int) : ρ :=
  bif (cmpStd .gtr z41 0) then (p45_2 fail fu  K0 rec1 y1 y4 y7 y10 y13 j21 j25 j26 j27 j28 j29 y30 z38 z39 z40 z41 (cmpStd .eql z39 0)) else (p45_2 fail fu  K0 rec1 y1 y4 y7 y10 y13 j21 j25 j26 j27 j28 j29 y30 z38 z39 z40 z41 false)
def p45_3L {ρ : Type} (fail : ρ) (fu : Nat)  (K0 : Int → Int → Int → Int → Int → Bool → Int → Int → ByteArray → EL → EL → Int → EL → Int → ρ)  (y1 : Int) (y4 : Int) (y7 : Int) (y10 : Int) (y13 : Int) (j21 : Bool) (j25 : Int) (j26 : Int) (j27 : ByteArray) (j28 : EL) (j29 : EL) (y30 : Int) : Nat → EL → Int → EL → Int → ρ
  | 0, _, _, _, _ => fail
  | n + 1, z38, z39, z40, z41 => p45_3 fail fu  K0 (p45_3L fail fu  K0  y1 y4 y7 y10 y13 j21 j25 j26 j27 j28 j29 y30 n) y1 y4 y7 y10 y13 j21 j25 j26 j27 j28 j29 y30 z38 z39 z40 z41
def p45_4 {ρ : Type} (fail : ρ) (fu : Nat)  (K0 : Int → Int → Int → Int → Int → Bool → Int → Int → ByteArray → EL → EL → Int → EL → Int → ρ)  (y1 : Int) (y4 : Int) (y7 : Int) (y10 : Int) (y13 : Int) (j21 : Bool) (j25 : Int) (j26 : Int) (j27 : ByteArray) (j28 : EL) (j29 : EL) (y30 : Int) (y33 : Int) (j36 : EL) (j37 : Int) : ρ :=
  p45_3L fail fu  K0 y1 y4 y7 y10 y13 j21 j25 j26 j27 j28 j29 y30 fu j36 j37 nilE y33
def p45_5 {ρ : Type} (fail : ρ) (fu : Nat)  (K0 : Int → Int → Int → Int → Int → Bool → Int → Int → ByteArray → EL → EL → Int → EL → Int → ρ)  (y1 : Int) (y4 : Int) (y7 : Int) (y10 : Int) (y13 : Int) (j21 : Bool) (j23 : EL) (j24 : Int) (j25 : Int) (j26 : Int) (j27 : ByteArray) (j28 : EL) (j29 : EL) : ρ :=
  p91 fail fu (fun y30 y31 y32 => p91 fail fu (fun y33 y34 y35 => bif (cmpStd .gtr y33 65536) then (p94 fail fu (fun y48 y49 => p45_4 fail fu  K0 y1 y4 y7 y10 y13 j21 j25 j26 j27 j28 j29 y30 y33 y48 y49) y34 y35 5) else (p45_4 fail fu  K0 y1 y4 y7 y10 y13 j21 j25 j26 j27 j28 j29 y30 y33 y34 y35)) y31 y32) j23 j24
def p45_6 {ρ : Type} (fail : ρ) (fu : Nat)  (K0 : Int → Int → Int → Int → Int → Bool → Int → Int → ByteArray → EL → EL → Int → EL → Int → ρ)  (y1 : Int) (y4 : Int) (y7 : Int) (y10 : Int) (y13 : Int) (j21 : Bool) (y50 : Int) (y51 : Int) (y52 : ByteArray) (y53 : EL) (y54 : EL) (j58 : EL) (j59 : Int) : ρ :=
  p45_5 fail fu  K0 y1 y4 y7 y10 y13 j21 j58 j59 y50 y51 y52 y53 y54
def p45_7 {ρ : Type} (fail : ρ) (fu : Nat)  (K0 : Int → Int → Int → Int → Int → Bool → Int → Int → ByteArray → EL → EL → Int → EL → Int → ρ)  (y1 : Int) (y4 : Int) (y7 : Int) (y10 : Int) (y13 : Int) (j19 : EL) (j20 : Int) (j21 : Bool) (j22 : Bool) : ρ :=
  bif j22 then (p65 fail fu (fun y50 y51 y52 y53 y54 y55 y56 => p86 fail fu (fun y57 => bif y57 then (p94 fail fu (fun y60 y61 => p45_6 fail fu  K0 y1 y4 y7 y10 y13 j21 y50 y51 y52 y53 y54 y60 y61) y55 y56 5) else (p45_6 fail fu  K0 y1 y4 y7 y10 y13 j21 y50 y51 y52 y53 y54 y55 y56)) y50 y51 y52 y53 y54 0 0 ⟨#[]⟩ nilE nilE) j19 j20) else (p45_5 fail fu  K0 y1 y4 y7 y10 y13 j21 j19 j20 0 0 ⟨#[]⟩ nilE nilE)
/-- reply.Take -/
def p45 {ρ : Type} (fail : ρ) (fu : Nat)  (K0 : Int → Int → Int → Int → Int → Bool → Int → Int → ByteArray → EL → EL → Int → EL → Int → ρ) (x0 : EL) : ρ :=
  p91 fail fu (fun y1 y2 y3 => p92 fail fu (fun y4 y5 y6 => p92 fail fu (fun y7 y8 y9 => p91 fail fu (fun y10 y11 y12 => p91 fail fu (fun y13 y14 y15 => p93 fail fu (fun y16 y17 y18 => p93 fail fu (fun y62 y63 y64 => bif (cmpStd .eql y62 1) then (p45_7 fail fu  K0 y1 y4 y7 y10 y13 y63 y64 (cmpStd .eql y16 1) (cmpStd .eql y64 0)) else (p45_7 fail fu  K0 y1 y4 y7 y10 y13 y63 y64 (cmpStd .eql y16 1) false)) y17 y18 0 1) y14 y15 0 1) y11 y12) y8 y9) y5 y6) y2 y3) x0 0
theorem d_p45 (fu : Nat)  {K0 : Int → Int → Int → Int → Int → Bool → Int → Int → ByteArray → EL → EL → Int → EL → Int → Prop} (L : EL → Nat) (hN : L = List.length) {x0 : EL} (h : p45 False fu K0 x0) : Den Try.prog G0 45 [.c (.sl 1 x0 none)] (fun r bs => (∃ (y0 : Int) (y1 : Int) (y2 : Int) (y3 : Int) (y4 : Int) (y5 : Bool) (y6 : Int) (y7 : Int) (y8 : ByteArray) (y9 : EL) (y10 : EL) (y11 : Int) (y12 : EL) (y13 : Int) (o0 : OV), (r = .tup [.agg [.c (.v (.int .i64 y0)), .c (.v (.int .u64 y1)), .c (.v (.int .u64 y2)), .c (.v (.int .i64 y3)), .c (.v (.int .i64 y4)), .c (.v (.bool y5)), .c (.v (.int .i64 y6)), .c (.v (.int .i64 y7)), .c (.v (.string y8)), .c (.sl 3 y9 none), .c (.sl 5 y10 none), .c (.v (.int .i64 y11)), .c (.sl 1 y12 none)], .c (.v (.int .i64 y13))] ∧ bs = [o0]) ∧ K0 y0 y1 y2 y3 y4 y5 y6 y7 y8 y9 y10 y11 y12 y13)) := by
  obtain ⟨O, hO⟩ : ∃ O, O = std 0 T G0 (Den Try.prog G0) := ⟨_, rfl⟩
  have hLO : L = O.len := by rw [hN, hO]; rfl
  subst hLO
  refine den_h hO tiA mixed tabOk (fn := Try.f45) (sh := true) (by kernel_rfl) rfl rfl rfl rfl ?_
  intro Q hQ
  unfold p45 at h
  conv => cbv
  refine call_h hO [.ref 2] (d_p91 fu O.len hN h) ?_
  intro os Q hos hQ
  conv => cbv
  refine ⟨(by (rw [hos]) <;> (subst hO; rfl)), ?_⟩
  intro r bs hq
  rw [hQ] at hq
  clear hos hQ h
  obtain ⟨y1, y2, y3, ⟨rfl, rfl⟩, h⟩ := hq
  conv => cbv
  refine call_h hO [.ref 2] (d_p92 fu O.len hN h) ?_
  intro os Q hos hQ
  conv => cbv
  refine ⟨(by (rw [hos]) <;> (subst hO; rfl)), ?_⟩
  intro r bs hq
  rw [hQ] at hq
  clear hos hQ h
  obtain ⟨y4, y5, y6, ⟨rfl, rfl⟩, h⟩ := hq
  conv => cbv
  refine call_h hO [.ref 2] (d_p92 fu O.len hN h) ?_
  intro os Q hos hQ
  conv => cbv
  refine ⟨(by (rw [hos]) <;> (subst hO; rfl)), ?_⟩
  intro r bs hq
  rw [hQ] at hq
  clear hos hQ h
  obtain ⟨y7, y8, y9, ⟨rfl, rfl⟩, h⟩ := hq
  conv => cbv
  refine call_h hO [.ref 2] (d_p91 fu O.len hN h) ?_
  intro os Q hos hQ
  conv => cbv
  refine ⟨(by (rw [hos]) <;> (subst hO; rfl)), ?_⟩
  intro r bs hq
  rw [hQ] at hq
  clear hos hQ h
  obtain ⟨y10, y11, y12, ⟨rfl, rfl⟩, h⟩ := hq
  conv => cbv
  refine call_h hO [.ref 2] (d_p91 fu O.len hN h) ?_
  intro os Q hos hQ
  conv => cbv
  refine ⟨(by (rw [hos]) <;> (subst hO; rfl)), ?_⟩
  intro r bs hq
  rw [hQ] at hq
  clear hos hQ h
  obtain ⟨y13, y14, y15, ⟨rfl, rfl⟩, h⟩ := hq
  conv => cbv
  refine call_h hO [.ref 2, .shut, .shut] (d_p93 fu O.len hN h) ?_
  intro os Q hos hQ
  conv => cbv
  refine ⟨(by (rw [hos]) <;> (subst hO; rfl)), ?_⟩
  intro r bs hq
  rw [hQ] at hq
  clear hos hQ h
  obtain ⟨y16, y17, y18, _, _, ⟨rfl, rfl⟩, h⟩ := hq
  conv => cbv
  refine reg_join hO tiA [2, 4, 5, 52] [3000, 6000, 11000] [] (fun tm m => ∃ (j19 : EL) (j20 : Int) (j21 : Bool) (j22 : Bool), ((tm = frame 0 120 [(2, .p 3000 0 0), (4, .p 11000 0 0), (5, .p 6000 0 0), (52, .c (.v (.bool j22)))] ∧ m = ⟨[(3000, .blk 0 [.c (.v (.int .i64 0)), .c (.v (.int .u64 0)), .c (.v (.int .u64 0)), .c (.v (.int .i64 0)), .c (.v (.int .i64 0)), .c (.v (.bool false)), .c (.v (.int .i64 0)), .c (.v (.int .i64 0)), .c (.v (.string ⟨#[]⟩)), .c (.sl 3 [] (some [])), .c (.sl 5 [] (some [])), .c (.v (.int .i64 0)), .c (.sl 1 [] (some []))]), (6000, .blk 0 [.c (.v (.int .i64 y1)), .c (.v (.int .u64 y4)), .c (.v (.int .u64 y7)), .c (.v (.int .i64 y10)), .c (.v (.int .i64 y13)), .c (.v (.bool j21)), .c (.v (.int .i64 0)), .c (.v (.int .i64 0)), .c (.v (.string ⟨#[]⟩)), .c (.sl 3 [] (some [])), .c (.sl 5 [] (some [])), .c (.v (.int .i64 0)), .c (.sl 1 [] (some []))]), (11000, .blk 0 [.c (.sl 1 j19 none), .c (.v (.int .i64 j20))])], 1⟩)) ∧ p45_7 False fu  K0 y1 y4 y7 y10 y13 j19 j20 j21 j22) (fun L hL_7 => ?_) ?_
  · conv => cbv
    refine call_h hO [.ref 2, .shut, .shut] (d_p93 fu O.len hN h) ?_
    intro os Q hos hQ
    conv => cbv
    refine ⟨(by (rw [hos]) <;> (subst hO; rfl)), ?_⟩
    intro r bs hq
    rw [hQ] at hq
    clear hos hQ h
    obtain ⟨y62, y63, y64, _, _, ⟨rfl, rfl⟩, h⟩ := hq
    conv => cbv
    refine br_h hO h (by subst hO; rfl) (fun hc8 h => ?_) (fun hc8 h => ?_)
    · conv => cbv
      refine br_t hO hc8 ?_
      conv => cbv
      refine br_t hO hc8 ?_
      conv => cbv
      refine br_t hO hc8 ?_
      conv => cbv
      refine br_t hO hc8 ?_
      conv => cbv
      refine br_t hO hc8 ?_
      conv => cbv
      refine br_t hO hc8 ?_
      conv => cbv
      exact hL_7 _ _ ⟨y63, y64, (cmpStd .eql y16 1), (cmpStd .eql y64 0), ⟨(by (conv => lhs; cbv) <;> (subst hO; rfl)), (by (conv => lhs; cbv) <;> (subst hO; rfl))⟩, h⟩
    · conv => cbv
      refine br_f hO hc8 ?_
      conv => cbv
      refine br_f hO hc8 ?_
      conv => cbv
      refine br_f hO hc8 ?_
      conv => cbv
      refine br_f hO hc8 ?_
      conv => cbv
      refine br_f hO hc8 ?_
      conv => cbv
      refine br_f hO hc8 ?_
      conv => cbv
      exact hL_7 _ _ ⟨y63, y64, (cmpStd .eql y16 1), false, ⟨(by (conv => lhs; cbv) <;> (subst hO; rfl)), (by (conv => lhs; cbv) <;> (subst hO; rfl))⟩, h⟩
  · rintro tm m ⟨j19, j20, j21, j22, hs, h⟩
    unfold p45_7 at h
    obtain ⟨rfl, rfl⟩ := hs
    conv => cbv
    refine br_join_h hO tiA h (by subst hO; rfl) [2, 4, 5] [3000, 6000, 11000] [] (fun tm m => ∃ (j23 : EL) (j24 : Int) (j25 : Int) (j26 : Int) (j27 : ByteArray) (j28 : EL) (j29 : EL), ((tm = frame 0 120 [(2, .p 3000 0 0), (4, .p 11000 0 0), (5, .p 6000 0 0)] ∧ m = ⟨[(3000, .blk 0 [.c (.v (.int .i64 0)), .c (.v (.int .u64 0)), .c (.v (.int .u64 0)), .c (.v (.int .i64 0)), .c (.v (.int .i64 0)), .c (.v (.bool false)), .c (.v (.int .i64 0)), .c (.v (.int .i64 0)), .c (.v (.string ⟨#[]⟩)), .c (.sl 3 [] (some [])), .c (.sl 5 [] (some [])), .c (.v (.int .i64 0)), .c (.sl 1 [] (some []))]), (6000, .blk 0 [.c (.v (.int .i64 y1)), .c (.v (.int .u64 y4)), .c (.v (.int .u64 y7)), .c (.v (.int .i64 y10)), .c (.v (.int .i64 y13)), .c (.v (.bool j21)), .c (.v (.int .i64 j25)), .c (.v (.int .i64 j26)), .c (.v (.string j27)), .c (.sl 3 j28 none), .c (.sl 5 j29 none), .c (.v (.int .i64 0)), .c (.sl 1 [] (some []))]), (11000, .blk 0 [.c (.sl 1 j23 none), .c (.v (.int .i64 j24))])], 1⟩) ∨ (j28 = [] ∧ j29 = [] ∧ tm = frame 0 120 [(2, .p 3000 0 0), (4, .p 11000 0 0), (5, .p 6000 0 0)] ∧ m = ⟨[(3000, .blk 0 [.c (.v (.int .i64 0)), .c (.v (.int .u64 0)), .c (.v (.int .u64 0)), .c (.v (.int .i64 0)), .c (.v (.int .i64 0)), .c (.v (.bool false)), .c (.v (.int .i64 0)), .c (.v (.int .i64 0)), .c (.v (.string ⟨#[]⟩)), .c (.sl 3 [] (some [])), .c (.sl 5 [] (some [])), .c (.v (.int .i64 0)), .c (.sl 1 [] (some []))]), (6000, .blk 0 [.c (.v (.int .i64 y1)), .c (.v (.int .u64 y4)), .c (.v (.int .u64 y7)), .c (.v (.int .i64 y10)), .c (.v (.int .i64 y13)), .c (.v (.bool j21)), .c (.v (.int .i64 j25)), .c (.v (.int .i64 j26)), .c (.v (.string j27)), .c (.sl 3 [] (some [])), .c (.sl 5 [] (some [])), .c (.v (.int .i64 0)), .c (.sl 1 [] (some []))]), (11000, .blk 0 [.c (.sl 1 j23 none), .c (.v (.int .i64 j24))])], 1⟩)) ∧ p45_5 False fu  K0 y1 y4 y7 y10 y13 j21 j23 j24 j25 j26 j27 j28 j29) (fun hc6 h L hL_5 => ?_) (fun hc6 h L hL_5 => ?_) ?_
    · conv => cbv
      refine call_h hO [.ref 2] (d_p65 fu O.len hN h) ?_
      intro os Q hos hQ
      conv => cbv
      refine ⟨(by (rw [hos]) <;> (subst hO; rfl)), ?_⟩
      intro r bs hq
      rw [hQ] at hq
      clear hos hQ h
      obtain ⟨y50, y51, y52, y53, y54, y55, y56, ⟨rfl, rfl⟩, h⟩ := hq
      conv => cbv
      refine call_h hO [.shut, .shut] (d_p86 fu O.len hN h) ?_
      intro os Q hos hQ
      conv => cbv
      refine ⟨(by (rw [hos]) <;> (subst hO; rfl)), ?_⟩
      intro r bs hq
      rw [hQ] at hq
      clear hos hQ h
      obtain ⟨y57, _, _, ⟨rfl, rfl⟩, h⟩ := hq
      conv => cbv
      refine br_join_h hO tiA h (by subst hO; rfl) [2, 4, 5] [3000, 6000, 11000] [] (fun tm m => ∃ (j58 : EL) (j59 : Int), ((tm = frame 0 120 [(2, .p 3000 0 0), (4, .p 11000 0 0), (5, .p 6000 0 0)] ∧ m = ⟨[(3000, .blk 0 [.c (.v (.int .i64 0)), .c (.v (.int .u64 0)), .c (.v (.int .u64 0)), .c (.v (.int .i64 0)), .c (.v (.int .i64 0)), .c (.v (.bool false)), .c (.v (.int .i64 0)), .c (.v (.int .i64 0)), .c (.v (.string ⟨#[]⟩)), .c (.sl 3 [] (some [])), .c (.sl 5 [] (some [])), .c (.v (.int .i64 0)), .c (.sl 1 [] (some []))]), (6000, .blk 0 [.c (.v (.int .i64 y1)), .c (.v (.int .u64 y4)), .c (.v (.int .u64 y7)), .c (.v (.int .i64 y10)), .c (.v (.int .i64 y13)), .c (.v (.bool j21)), .c (.v (.int .i64 y50)), .c (.v (.int .i64 y51)), .c (.v (.string y52)), .c (.sl 3 y53 none), .c (.sl 5 y54 none), .c (.v (.int .i64 0)), .c (.sl 1 [] (some []))]), (11000, .blk 0 [.c (.sl 1 j58 none), .c (.v (.int .i64 j59))])], 1⟩)) ∧ p45_6 False fu  K0 y1 y4 y7 y10 y13 j21 y50 y51 y52 y53 y54 j58 j59) (fun hc7 h L hL_6 => ?_) (fun hc7 h L hL_6 => ?_) ?_
      · conv => cbv
        refine call_h hO [.ref 2, .shut] (d_p94 fu O.len hN h) ?_
        intro os Q hos hQ
        conv => cbv
        refine ⟨(by (rw [hos]) <;> (subst hO; rfl)), ?_⟩
        intro r bs hq
        rw [hQ] at hq
        clear hos hQ h
        obtain ⟨y60, y61, _, ⟨rfl, rfl⟩, h⟩ := hq
        conv => cbv
        exact hL_6 _ _ ⟨y60, y61, ⟨(by (conv => lhs; cbv) <;> (subst hO; rfl)), (by (conv => lhs; cbv) <;> (subst hO; rfl))⟩, h⟩
      · conv => cbv
        exact hL_6 _ _ ⟨y55, y56, ⟨(by (conv => lhs; cbv) <;> (subst hO; rfl)), (by (conv => lhs; cbv) <;> (subst hO; rfl))⟩, h⟩
      · rintro tm m ⟨j58, j59, hs, h⟩
        unfold p45_6 at h
        obtain ⟨rfl, rfl⟩ := hs
        conv => cbv
        exact hL_5 _ _ ⟨j58, j59, y50, y51, y52, y53, y54, (.inl ⟨(by (conv => lhs; cbv) <;> (subst hO; rfl)), (by (conv => lhs; cbv) <;> (subst hO; rfl))⟩), h⟩
    · conv => cbv
      exact hL_5 _ _ ⟨j19, j20, 0, 0, ⟨#[]⟩, nilE, nilE, (.inr ⟨rfl, rfl, (by (conv => lhs; cbv) <;> (subst hO; rfl)), (by (conv => lhs; cbv) <;> (subst hO; rfl))⟩), h⟩
    · rintro tm m ⟨j23, j24, j25, j26, j27, j28, j29, hs, h⟩
      unfold p45_5 at h
      rcases hs with hs | hs
      · obtain ⟨rfl, rfl⟩ := hs
        conv => cbv
        refine call_h hO [.ref 2] (d_p91 fu O.len hN h) ?_
        intro os Q hos hQ
        conv => cbv
        refine ⟨(by (rw [hos]) <;> (subst hO; rfl)), ?_⟩
        intro r bs hq
        rw [hQ] at hq
        clear hos hQ h
        obtain ⟨y30, y31, y32, ⟨rfl, rfl⟩, h⟩ := hq
        conv => cbv
        refine call_h hO [.ref 2] (d_p91 fu O.len hN h) ?_
        intro os Q hos hQ
        conv => cbv
        refine ⟨(by (rw [hos]) <;> (subst hO; rfl)), ?_⟩
        intro r bs hq
        rw [hQ] at hq
        clear hos hQ h
        obtain ⟨y33, y34, y35, ⟨rfl, rfl⟩, h⟩ := hq
        conv => cbv
        refine br_join_h hO tiA h (by subst hO; rfl) [2, 4, 5, 6] [3000, 6000, 11000] [] (fun tm m => ∃ (j36 : EL) (j37 : Int), ((tm = frame 0 120 [(2, .p 3000 0 0), (4, .p 11000 0 0), (5, .p 6000 0 0), (6, .c (.v (.int .i64 y33)))] ∧ m = ⟨[(3000, .blk 0 [.c (.v (.int .i64 0)), .c (.v (.int .u64 0)), .c (.v (.int .u64 0)), .c (.v (.int .i64 0)), .c (.v (.int .i64 0)), .c (.v (.bool false)), .c (.v (.int .i64 0)), .c (.v (.int .i64 0)), .c (.v (.string ⟨#[]⟩)), .c (.sl 3 [] (some [])), .c (.sl 5 [] (some [])), .c (.v (.int .i64 0)), .c (.sl 1 [] (some []))]), (6000, .blk 0 [.c (.v (.int .i64 y1)), .c (.v (.int .u64 y4)), .c (.v (.int .u64 y7)), .c (.v (.int .i64 y10)), .c (.v (.int .i64 y13)), .c (.v (.bool j21)), .c (.v (.int .i64 j25)), .c (.v (.int .i64 j26)), .c (.v (.string j27)), .c (.sl 3 j28 none), .c (.sl 5 j29 none), .c (.v (.int .i64 y30)), .c (.sl 1 [] (some []))]), (11000, .blk 0 [.c (.sl 1 j36 none), .c (.v (.int .i64 j37))])], 1⟩)) ∧ p45_4 False fu  K0 y1 y4 y7 y10 y13 j21 j25 j26 j27 j28 j29 y30 y33 j36 j37) (fun hc5 h L hL_4 => ?_) (fun hc5 h L hL_4 => ?_) ?_
        · conv => cbv
          refine call_h hO [.ref 2, .shut] (d_p94 fu O.len hN h) ?_
          intro os Q hos hQ
          conv => cbv
          refine ⟨(by (rw [hos]) <;> (subst hO; rfl)), ?_⟩
          intro r bs hq
          rw [hQ] at hq
          clear hos hQ h
          obtain ⟨y48, y49, _, ⟨rfl, rfl⟩, h⟩ := hq
          conv => cbv
          exact hL_4 _ _ ⟨y48, y49, ⟨(by (conv => lhs; cbv) <;> (subst hO; rfl)), (by (conv => lhs; cbv) <;> (subst hO; rfl))⟩, h⟩
        · conv => cbv
          exact hL_4 _ _ ⟨y34, y35, ⟨(by (conv => lhs; cbv) <;> (subst hO; rfl)), (by (conv => lhs; cbv) <;> (subst hO; rfl))⟩, h⟩
        · rintro tm m ⟨j36, j37, hs, h⟩
          unfold p45_4 at h
          obtain ⟨rfl, rfl⟩ := hs
          conv => cbv
          refine loop_of hO tiA [2, 4, 5, 6] [3000, 6000, 11000, 102000] [] (fun (n : Nat) tm m => ∃ (z38 : EL) (z39 : Int) (z40 : EL) (z41 : Int), ((z40 = [] ∧ tm = frame 0 120 [(2, .p 3000 0 0), (4, .p 11000 0 0), (5, .p 6000 0 0), (6, .c (.v (.int .i64 z41)))] ∧ m = ⟨[(3000, .blk 0 [.c (.v (.int .i64 0)), .c (.v (.int .u64 0)), .c (.v (.int .u64 0)), .c (.v (.int .i64 0)), .c (.v (.int .i64 0)), .c (.v (.bool false)), .c (.v (.int .i64 0)), .c (.v (.int .i64 0)), .c (.v (.string ⟨#[]⟩)), .c (.sl 3 [] (some [])), .c (.sl 5 [] (some [])), .c (.v (.int .i64 0)), .c (.sl 1 [] (some []))]), (6000, .blk 0 [.c (.v (.int .i64 y1)), .c (.v (.int .u64 y4)), .c (.v (.int .u64 y7)), .c (.v (.int .i64 y10)), .c (.v (.int .i64 y13)), .c (.v (.bool j21)), .c (.v (.int .i64 j25)), .c (.v (.int .i64 j26)), .c (.v (.string j27)), .c (.sl 3 j28 none), .c (.sl 5 j29 none), .c (.v (.int .i64 y30)), .c (.sl 1 [] (some []))]), (11000, .blk 0 [.c (.sl 1 z38 none), .c (.v (.int .i64 z39))])], 1⟩) ∨ (tm = frame 0 120 [(2, .p 3000 0 0), (4, .p 11000 0 0), (5, .p 6000 0 0), (6, .c (.v (.int .i64 z41)))] ∧ m = ⟨[(3000, .blk 0 [.c (.v (.int .i64 0)), .c (.v (.int .u64 0)), .c (.v (.int .u64 0)), .c (.v (.int .i64 0)), .c (.v (.int .i64 0)), .c (.v (.bool false)), .c (.v (.int .i64 0)), .c (.v (.int .i64 0)), .c (.v (.string ⟨#[]⟩)), .c (.sl 3 [] (some [])), .c (.sl 5 [] (some [])), .c (.v (.int .i64 0)), .c (.sl 1 [] (some []))]), (6000, .blk 0 [.c (.v (.int .i64 y1)), .c (.v (.int .u64 y4)), .c (.v (.int .u64 y7)), .c (.v (.int .i64 y10)), .c (.v (.int .i64 y13)), .c (.v (.bool j21)), .c (.v (.int .i64 j25)), .c (.v (.int .i64 j26)), .c (.v (.string j27)), .c (.sl 3 j28 none), .c (.sl 5 j29 none), .c (.v (.int .i64 y30)), .t 102000 0 (O.len z40)]), (11000, .blk 0 [.c (.sl 1 z38 none), .c (.v (.int .i64 z39))]), (102000, .arr 0 1 z40 none false)], 1⟩)) ∧ p45_3L False fu  K0 y1 y4 y7 y10 y13 j21 j25 j26 j27 j28 j29 y30 n z38 z39 z40 z41) (fun n => n) fu ⟨j36, j37, nilE, y33, (.inl ⟨rfl, (by (conv => lhs; cbv) <;> (subst hO; rfl)), (by (conv => lhs; cbv) <;> (subst hO; rfl))⟩), h⟩ ?_
          rintro n1 tm m L ⟨z38, z39, z40, z41, hs, h⟩ hLn1
          cases n1 with
          | zero => rw [p45_3L] at h; exact h.elim
          | succ n1 =>
            rw [p45_3L] at h
            unfold p45_3 at h
            rcases hs with hs | hs
            · obtain ⟨rfl, rfl, rfl⟩ := hs
              conv => cbv
              refine reg_join hO tiA [2, 4, 5, 6, 90] [3000, 6000, 11000] [] (fun tm m => ∃ (j42 : Bool), ((tm = frame 0 120 [(2, .p 3000 0 0), (4, .p 11000 0 0), (5, .p 6000 0 0), (6, .c (.v (.int .i64 z41))), (90, .c (.v (.bool j42)))] ∧ m = ⟨[(3000, .blk 0 [.c (.v (.int .i64 0)), .c (.v (.int .u64 0)), .c (.v (.int .u64 0)), .c (.v (.int .i64 0)), .c (.v (.int .i64 0)), .c (.v (.bool false)), .c (.v (.int .i64 0)), .c (.v (.int .i64 0)), .c (.v (.string ⟨#[]⟩)), .c (.sl 3 [] (some [])), .c (.sl 5 [] (some [])), .c (.v (.int .i64 0)), .c (.sl 1 [] (some []))]), (6000, .blk 0 [.c (.v (.int .i64 y1)), .c (.v (.int .u64 y4)), .c (.v (.int .u64 y7)), .c (.v (.int .i64 y10)), .c (.v (.int .i64 y13)), .c (.v (.bool j21)), .c (.v (.int .i64 j25)), .c (.v (.int .i64 j26)), .c (.v (.string j27)), .c (.sl 3 j28 none), .c (.sl 5 j29 none), .c (.v (.int .i64 y30)), .c (.sl 1 [] (some []))]), (11000, .blk 0 [.c (.sl 1 z38 none), .c (.v (.int .i64 z39))])], 1⟩)) ∧ p45_2 False fu  K0 (p45_3L False fu  K0  y1 y4 y7 y10 y13 j21 j25 j26 j27 j28 j29 y30 n1) y1 y4 y7 y10 y13 j21 j25 j26 j27 j28 j29 y30 z38 z39 nilE z41 j42) (fun L hL_2 => ?_) ?_
              · conv => cbv
                refine br_h hO h (by subst hO; rfl) (fun hc4 h => ?_) (fun hc4 h => ?_)
                · conv => cbv
                  refine br_t hO hc4 ?_
                  conv => cbv
                  refine br_t hO hc4 ?_
                  conv => cbv
                  refine br_t hO hc4 ?_
                  conv => cbv
                  refine br_t hO hc4 ?_
                  conv => cbv
                  refine br_t hO hc4 ?_
                  conv => cbv
                  refine br_t hO hc4 ?_
                  conv => cbv
                  exact hL_2 _ _ ⟨(cmpStd .eql z39 0), ⟨(by (conv => lhs; cbv) <;> (subst hO; rfl)), (by (conv => lhs; cbv) <;> (subst hO; rfl))⟩, h⟩
                · conv => cbv
                  refine br_f hO hc4 ?_
                  conv => cbv
                  refine br_f hO hc4 ?_
                  conv => cbv
                  refine br_f hO hc4 ?_
                  conv => cbv
                  refine br_f hO hc4 ?_
                  conv => cbv
                  refine br_f hO hc4 ?_
                  conv => cbv
                  refine br_f hO hc4 ?_
                  conv => cbv
                  exact hL_2 _ _ ⟨false, ⟨(by (conv => lhs; cbv) <;> (subst hO; rfl)), (by (conv => lhs; cbv) <;> (subst hO; rfl))⟩, h⟩
              · rintro tm m ⟨j42, hs, h⟩
                unfold p45_2 at h
                obtain ⟨rfl, rfl⟩ := hs
                conv => cbv
                refine br_h hO h (by subst hO; rfl) (fun hc1 h => ?_) (fun hc1 h => ?_)
                · conv => cbv
                  refine join_all hO ?_
                  conv => cbv
                  refine drawn_of hO tiA [[11000], [], [], [], []] [(0, true, false), (1, true, false), (2, true, false), (3, true, false), (4, true, false), (5, false, false), (6, true, false), (7, false, false), (8, false, true), (9, true, true), (10, false, true)] (by kernel_rfl) ?_
                  conv => cbv
                  refine call_h hO [.ref 2, .shut] (d_p95 fu O.len hN h) ?_
                  intro os Q hos hQ
                  conv => cbv
                  refine ⟨(by (rw [hos]) <;> (subst hO; rfl)), ?_⟩
                  intro r bs hq
                  rw [hQ] at hq
                  clear hos hQ h
                  obtain ⟨y43, y44, y45, _, ⟨rfl, rfl⟩, h⟩ := hq
                  conv => cbv
                  refine ⟨agree_of hO (Nat.le_of_ble_eq_true rfl) rfl, ?_⟩
                  refine tob_h hO h (by subst hO; rfl) (fun s46 h => ?_)
                  conv => cbv
                  refine ⟨agree_of hO (Nat.le_of_ble_eq_true rfl) rfl, ?_⟩
                  refine view_h hO h (fun g => (by subst hO; exact g)) (fun h => ?_)
                  conv => cbv
                  refine and_h h (fun g => (by subst hO; exact g)) (fun h => ?_)
                  refine emp_no hO (by subst hO; exact List.cons_ne_nil _ _) ?_
                  conv => cbv
                  refine join_all hO ?_
                  conv => cbv
                  exact hLn1 n1 _ _ (Nat.lt_succ_self n1) ⟨y44, y45, (nilE ++ (List.take 1 [[(CV.v (.string s46))]])), binStd .sub .i64 z41 1, (.inr ⟨(by (conv => lhs; cbv) <;> (subst hO; rfl)), (by (conv => lhs; cbv) <;> (subst hO; rfl))⟩), h⟩
                · conv => cbv
                  refine reg_join hO tiA [2, 5, 117] [3000, 6000] [] (fun tm m => ∃ (j47 : Bool), ((tm = frame 0 120 [(2, .p 3000 0 0), (5, .p 6000 0 0), (117, .c (.v (.bool j47)))] ∧ m = ⟨[(3000, .blk 0 [.c (.v (.int .i64 0)), .c (.v (.int .u64 0)), .c (.v (.int .u64 0)), .c (.v (.int .i64 0)), .c (.v (.int .i64 0)), .c (.v (.bool false)), .c (.v (.int .i64 0)), .c (.v (.int .i64 0)), .c (.v (.string ⟨#[]⟩)), .c (.sl 3 [] (some [])), .c (.sl 5 [] (some [])), .c (.v (.int .i64 0)), .c (.sl 1 [] (some []))]), (6000, .blk 0 [.c (.v (.int .i64 y1)), .c (.v (.int .u64 y4)), .c (.v (.int .u64 y7)), .c (.v (.int .i64 y10)), .c (.v (.int .i64 y13)), .c (.v (.bool j21)), .c (.v (.int .i64 j25)), .c (.v (.int .i64 j26)), .c (.v (.string j27)), .c (.sl 3 j28 none), .c (.sl 5 j29 none), .c (.v (.int .i64 y30)), .c (.sl 1 [] (some []))])], 1⟩)) ∧ p45_1 False fu  K0 y1 y4 y7 y10 y13 j21 j25 j26 j27 j28 j29 y30 nilE j47) (fun L hL_1 => ?_) ?_
                  · conv => cbv
                    refine br_h hO h (by subst hO; rfl) (fun hc3 h => ?_) (fun hc3 h => ?_)
                    · conv => cbv
                      refine br_t hO hc3 ?_
                      conv => cbv
                      refine br_t hO hc3 ?_
                      conv => cbv
                      refine br_t hO hc3 ?_
                      conv => cbv
                      refine br_t hO hc3 ?_
                      conv => cbv
                      refine br_t hO hc3 ?_
                      conv => cbv
                      refine br_t hO hc3 ?_
                      conv => cbv
                      refine br_t hO hc3 ?_
                      conv => cbv
                      exact hL_1 _ _ ⟨true, ⟨(by (conv => lhs; cbv) <;> (subst hO; rfl)), (by (conv => lhs; cbv) <;> (subst hO; rfl))⟩, h⟩
                    · conv => cbv
                      refine br_f hO hc3 ?_
                      conv => cbv
                      refine br_f hO hc3 ?_
                      conv => cbv
                      refine br_f hO hc3 ?_
                      conv => cbv
                      refine br_f hO hc3 ?_
                      conv => cbv
                      refine br_f hO hc3 ?_
                      conv => cbv
                      refine br_f hO hc3 ?_
                      conv => cbv
                      refine br_f hO hc3 ?_
                      conv => cbv
                      exact hL_1 _ _ ⟨(cmpStd .gtr ((z38.length : Nat) : Int) 0), ⟨(by (conv => lhs; cbv) <;> (subst hO; rfl)), (by (conv => lhs; cbv) <;> (subst hO; rfl))⟩, h⟩
                  · rintro tm m ⟨j47, hs, h⟩
                    unfold p45_1 at h
                    obtain ⟨rfl, rfl⟩ := hs
                    conv => cbv
                    refine br_h hO h (by subst hO; rfl) (fun hc2 h => ?_) (fun hc2 h => ?_)
                    · conv => cbv
                      rw [hQ]
                      exact ⟨0, 0, 0, 0, 0, false, 0, 0, ⟨#[]⟩, nilE, nilE, 0, nilE, 5, _, ⟨(by subst hO; rfl), (by subst hO; rfl)⟩, h⟩
                    · conv => cbv
                      refine join_all hO ?_
                      conv => cbv
                      rw [hQ]
                      exact ⟨y1, y4, y7, y10, y13, j21, j25, j26, j27, j28, j29, y30, nilE, 0, _, ⟨(by subst hO; rfl), (by subst hO; rfl)⟩, h⟩
            · obtain ⟨rfl, rfl⟩ := hs
              conv => cbv
              refine reg_join hO tiA [2, 4, 5, 6, 90] [3000, 6000, 11000, 102000] [] (fun tm m => ∃ (j42 : Bool), ((tm = frame 0 120 [(2, .p 3000 0 0), (4, .p 11000 0 0), (5, .p 6000 0 0), (6, .c (.v (.int .i64 z41))), (90, .c (.v (.bool j42)))] ∧ m = ⟨[(3000, .blk 0 [.c (.v (.int .i64 0)), .c (.v (.int .u64 0)), .c (.v (.int .u64 0)), .c (.v (.int .i64 0)), .c (.v (.int .i64 0)), .c (.v (.bool false)), .c (.v (.int .i64 0)), .c (.v (.int .i64 0)), .c (.v (.string ⟨#[]⟩)), .c (.sl 3 [] (some [])), .c (.sl 5 [] (some [])), .c (.v (.int .i64 0)), .c (.sl 1 [] (some []))]), (6000, .blk 0 [.c (.v (.int .i64 y1)), .c (.v (.int .u64 y4)), .c (.v (.int .u64 y7)), .c (.v (.int .i64 y10)), .c (.v (.int .i64 y13)), .c (.v (.bool j21)), .c (.v (.int .i64 j25)), .c (.v (.int .i64 j26)), .c (.v (.string j27)), .c (.sl 3 j28 none), .c (.sl 5 j29 none), .c (.v (.int .i64 y30)), .t 102000 0 (O.len z40)]), (11000, .blk 0 [.c (.sl 1 z38 none), .c (.v (.int .i64 z39))]), (102000, .arr 0 1 z40 none false)], 1⟩)) ∧ p45_2 False fu  K0 (p45_3L False fu  K0  y1 y4 y7 y10 y13 j21 j25 j26 j27 j28 j29 y30 n1) y1 y4 y7 y10 y13 j21 j25 j26 j27 j28 j29 y30 z38 z39 z40 z41 j42) (fun L hL_2 => ?_) ?_
              · conv => cbv
                refine br_h hO h (by subst hO; rfl) (fun hc4 h => ?_) (fun hc4 h => ?_)
                · conv => cbv
                  refine br_t hO hc4 ?_
                  conv => cbv
                  refine br_t hO hc4 ?_
                  conv => cbv
                  refine br_t hO hc4 ?_
                  conv => cbv
                  refine br_t hO hc4 ?_
                  conv => cbv
                  refine br_t hO hc4 ?_
                  conv => cbv
                  refine br_t hO hc4 ?_
                  conv => cbv
                  exact hL_2 _ _ ⟨(cmpStd .eql z39 0), ⟨(by (conv => lhs; cbv) <;> (subst hO; rfl)), (by (conv => lhs; cbv) <;> (subst hO; rfl))⟩, h⟩
                · conv => cbv
                  refine br_f hO hc4 ?_
                  conv => cbv
                  refine br_f hO hc4 ?_
                  conv => cbv
                  refine br_f hO hc4 ?_
                  conv => cbv
                  refine br_f hO hc4 ?_
                  conv => cbv
                  refine br_f hO hc4 ?_
                  conv => cbv
                  refine br_f hO hc4 ?_
                  conv => cbv
                  exact hL_2 _ _ ⟨false, ⟨(by (conv => lhs; cbv) <;> (subst hO; rfl)), (by (conv => lhs; cbv) <;> (subst hO; rfl))⟩, h⟩
              · rintro tm m ⟨j42, hs, h⟩
                unfold p45_2 at h
                obtain ⟨rfl, rfl⟩ := hs
                conv => cbv
                refine br_h hO h (by subst hO; rfl) (fun hc1 h => ?_) (fun hc1 h => ?_)
                · conv => cbv
                  refine join_all hO ?_
                  conv => cbv
                  refine drawn_of hO tiA [[11000], [], [], [], []] [(0, true, false), (1, true, false), (2, true, false), (3, true, false), (4, true, false), (5, false, false), (6, true, false), (7, false, false), (8, false, true), (9, true, true), (10, false, true)] (by kernel_rfl) ?_
                  conv => cbv
                  refine call_h hO [.ref 2, .shut] (d_p95 fu O.len hN h) ?_
                  intro os Q hos hQ
                  conv => cbv
                  refine ⟨(by (rw [hos]) <;> (subst hO; rfl)), ?_⟩
                  intro r bs hq
                  rw [hQ] at hq
                  clear hos hQ h
                  obtain ⟨y43, y44, y45, _, ⟨rfl, rfl⟩, h⟩ := hq
                  conv => cbv
                  refine ⟨agree_of hO (Nat.le_of_ble_eq_true rfl) rfl, ?_⟩
                  refine tob_h hO h (by subst hO; rfl) (fun s46 h => ?_)
                  conv => cbv
                  refine ⟨agree_of hO (Nat.le_of_ble_eq_true rfl) rfl, ?_⟩
                  refine view_h hO h (fun g => (by subst hO; exact g)) (fun h => ?_)
                  conv => cbv
                  refine ⟨(by subst hO; rfl), ?_⟩
                  refine and_h h (fun g => (by subst hO; exact g)) (fun h => ?_)
                  refine join_all hO ?_
                  conv => cbv
                  exact hLn1 n1 _ _ (Nat.lt_succ_self n1) ⟨y44, y45, (z40 ++ (List.take 1 [[(CV.v (.string s46))]])), binStd .sub .i64 z41 1, (.inr ⟨(by (conv => lhs; cbv) <;> (subst hO; rfl)), (by (conv => lhs; cbv) <;> (subst hO; rfl))⟩), h⟩
                · conv => cbv
                  refine reg_join hO tiA [2, 5, 117] [3000, 6000, 102000] [] (fun tm m => ∃ (j47 : Bool), ((tm = frame 0 120 [(2, .p 3000 0 0), (5, .p 6000 0 0), (117, .c (.v (.bool j47)))] ∧ m = ⟨[(3000, .blk 0 [.c (.v (.int .i64 0)), .c (.v (.int .u64 0)), .c (.v (.int .u64 0)), .c (.v (.int .i64 0)), .c (.v (.int .i64 0)), .c (.v (.bool false)), .c (.v (.int .i64 0)), .c (.v (.int .i64 0)), .c (.v (.string ⟨#[]⟩)), .c (.sl 3 [] (some [])), .c (.sl 5 [] (some [])), .c (.v (.int .i64 0)), .c (.sl 1 [] (some []))]), (6000, .blk 0 [.c (.v (.int .i64 y1)), .c (.v (.int .u64 y4)), .c (.v (.int .u64 y7)), .c (.v (.int .i64 y10)), .c (.v (.int .i64 y13)), .c (.v (.bool j21)), .c (.v (.int .i64 j25)), .c (.v (.int .i64 j26)), .c (.v (.string j27)), .c (.sl 3 j28 none), .c (.sl 5 j29 none), .c (.v (.int .i64 y30)), .t 102000 0 (O.len z40)]), (102000, .arr 0 1 z40 none false)], 1⟩)) ∧ p45_1 False fu  K0 y1 y4 y7 y10 y13 j21 j25 j26 j27 j28 j29 y30 z40 j47) (fun L hL_1 => ?_) ?_
                  · conv => cbv
                    refine br_h hO h (by subst hO; rfl) (fun hc3 h => ?_) (fun hc3 h => ?_)
                    · conv => cbv
                      refine br_t hO hc3 ?_
                      conv => cbv
                      refine br_t hO hc3 ?_
                      conv => cbv
                      refine br_t hO hc3 ?_
                      conv => cbv
                      refine br_t hO hc3 ?_
                      conv => cbv
                      refine br_t hO hc3 ?_
                      conv => cbv
                      refine br_t hO hc3 ?_
                      conv => cbv
                      refine br_t hO hc3 ?_
                      conv => cbv
                      exact hL_1 _ _ ⟨true, ⟨(by (conv => lhs; cbv) <;> (subst hO; rfl)), (by (conv => lhs; cbv) <;> (subst hO; rfl))⟩, h⟩
                    · conv => cbv
                      refine br_f hO hc3 ?_
                      conv => cbv
                      refine br_f hO hc3 ?_
                      conv => cbv
                      refine br_f hO hc3 ?_
                      conv => cbv
                      refine br_f hO hc3 ?_
                      conv => cbv
                      refine br_f hO hc3 ?_
                      conv => cbv
                      refine br_f hO hc3 ?_
                      conv => cbv
                      refine br_f hO hc3 ?_
                      conv => cbv
                      exact hL_1 _ _ ⟨(cmpStd .gtr ((z38.length : Nat) : Int) 0), ⟨(by (conv => lhs; cbv) <;> (subst hO; rfl)), (by (conv => lhs; cbv) <;> (subst hO; rfl))⟩, h⟩
                  · rintro tm m ⟨j47, hs, h⟩
                    unfold p45_1 at h
                    obtain ⟨rfl, rfl⟩ := hs
                    conv => cbv
                    refine br_h hO h (by subst hO; rfl) (fun hc2 h => ?_) (fun hc2 h => ?_)
                    · conv => cbv
                      rw [hQ]
                      exact ⟨0, 0, 0, 0, 0, false, 0, 0, ⟨#[]⟩, nilE, nilE, 0, nilE, 5, _, ⟨(by subst hO; rfl), (by subst hO; rfl)⟩, h⟩
                    · conv => cbv
                      refine join_all hO ?_
                      conv => cbv
                      refine view_full hO ?_
                      conv => cbv
                      rw [hQ]
                      exact ⟨y1, y4, y7, y10, y13, j21, j25, j26, j27, j28, j29, y30, z40, 0, _, ⟨(by subst hO; rfl), (by subst hO; rfl)⟩, h⟩
      · obtain ⟨rfl, rfl, rfl, rfl⟩ := hs
        conv => cbv
        refine call_h hO [.ref 2] (d_p91 fu O.len hN h) ?_
        intro os Q hos hQ
        conv => cbv
        refine ⟨(by (rw [hos]) <;> (subst hO; rfl)), ?_⟩
        intro r bs hq
        rw [hQ] at hq
        clear hos hQ h
        obtain ⟨y30, y31, y32, ⟨rfl, rfl⟩, h⟩ := hq
        conv => cbv
        refine call_h hO [.ref 2] (d_p91 fu O.len hN h) ?_
        intro os Q hos hQ
        conv => cbv
        refine ⟨(by (rw [hos]) <;> (subst hO; rfl)), ?_⟩
        intro r bs hq
        rw [hQ] at hq
        clear hos hQ h
        obtain ⟨y33, y34, y35, ⟨rfl, rfl⟩, h⟩ := hq
        conv => cbv
        refine br_join_h hO tiA h (by subst hO; rfl) [2, 4, 5, 6] [3000, 6000, 11000] [] (fun tm m => ∃ (j36 : EL) (j37 : Int), ((tm = frame 0 120 [(2, .p 3000 0 0), (4, .p 11000 0 0), (5, .p 6000 0 0), (6, .c (.v (.int .i64 y33)))] ∧ m = ⟨[(3000, .blk 0 [.c (.v (.int .i64 0)), .c (.v (.int .u64 0)), .c (.v (.int .u64 0)), .c (.v (.int .i64 0)), .c (.v (.int .i64 0)), .c (.v (.bool false)), .c (.v (.int .i64 0)), .c (.v (.int .i64 0)), .c (.v (.string ⟨#[]⟩)), .c (.sl 3 [] (some [])), .c (.sl 5 [] (some [])), .c (.v (.int .i64 0)), .c (.sl 1 [] (some []))]), (6000, .blk 0 [.c (.v (.int .i64 y1)), .c (.v (.int .u64 y4)), .c (.v (.int .u64 y7)), .c (.v (.int .i64 y10)), .c (.v (.int .i64 y13)), .c (.v (.bool j21)), .c (.v (.int .i64 j25)), .c (.v (.int .i64 j26)), .c (.v (.string j27)), .c (.sl 3 [] (some [])), .c (.sl 5 [] (some [])), .c (.v (.int .i64 y30)), .c (.sl 1 [] (some []))]), (11000, .blk 0 [.c (.sl 1 j36 none), .c (.v (.int .i64 j37))])], 1⟩)) ∧ p45_4 False fu  K0 y1 y4 y7 y10 y13 j21 j25 j26 j27 nilE nilE y30 y33 j36 j37) (fun hc5 h L hL_4 => ?_) (fun hc5 h L hL_4 => ?_) ?_
        · conv => cbv
          refine call_h hO [.ref 2, .shut] (d_p94 fu O.len hN h) ?_
          intro os Q hos hQ
          conv => cbv
          refine ⟨(by (rw [hos]) <;> (subst hO; rfl)), ?_⟩
          intro r bs hq
          rw [hQ] at hq
          clear hos hQ h
          obtain ⟨y48, y49, _, ⟨rfl, rfl⟩, h⟩ := hq
          conv => cbv
          exact hL_4 _ _ ⟨y48, y49, ⟨(by (conv => lhs; cbv) <;> (subst hO; rfl)), (by (conv => lhs; cbv) <;> (subst hO; rfl))⟩, h⟩
        · conv => cbv
          exact hL_4 _ _ ⟨y34, y35, ⟨(by (conv => lhs; cbv) <;> (subst hO; rfl)), (by (conv => lhs; cbv) <;> (subst hO; rfl))⟩, h⟩
        · rintro tm m ⟨j36, j37, hs, h⟩
          unfold p45_4 at h
          obtain ⟨rfl, rfl⟩ := hs
          conv => cbv
          refine loop_of hO tiA [2, 4, 5, 6] [3000, 6000, 11000, 102000] [] (fun (n : Nat) tm m => ∃ (z38 : EL) (z39 : Int) (z40 : EL) (z41 : Int), ((z40 = [] ∧ tm = frame 0 120 [(2, .p 3000 0 0), (4, .p 11000 0 0), (5, .p 6000 0 0), (6, .c (.v (.int .i64 z41)))] ∧ m = ⟨[(3000, .blk 0 [.c (.v (.int .i64 0)), .c (.v (.int .u64 0)), .c (.v (.int .u64 0)), .c (.v (.int .i64 0)), .c (.v (.int .i64 0)), .c (.v (.bool false)), .c (.v (.int .i64 0)), .c (.v (.int .i64 0)), .c (.v (.string ⟨#[]⟩)), .c (.sl 3 [] (some [])), .c (.sl 5 [] (some [])), .c (.v (.int .i64 0)), .c (.sl 1 [] (some []))]), (6000, .blk 0 [.c (.v (.int .i64 y1)), .c (.v (.int .u64 y4)), .c (.v (.int .u64 y7)), .c (.v (.int .i64 y10)), .c (.v (.int .i64 y13)), .c (.v (.bool j21)), .c (.v (.int .i64 j25)), .c (.v (.int .i64 j26)), .c (.v (.string j27)), .c (.sl 3 [] (some [])), .c (.sl 5 [] (some [])), .c (.v (.int .i64 y30)), .c (.sl 1 [] (some []))]), (11000, .blk 0 [.c (.sl 1 z38 none), .c (.v (.int .i64 z39))])], 1⟩) ∨ (tm = frame 0 120 [(2, .p 3000 0 0), (4, .p 11000 0 0), (5, .p 6000 0 0), (6, .c (.v (.int .i64 z41)))] ∧ m = ⟨[(3000, .blk 0 [.c (.v (.int .i64 0)), .c (.v (.int .u64 0)), .c (.v (.int .u64 0)), .c (.v (.int .i64 0)), .c (.v (.int .i64 0)), .c (.v (.bool false)), .c (.v (.int .i64 0)), .c (.v (.int .i64 0)), .c (.v (.string ⟨#[]⟩)), .c (.sl 3 [] (some [])), .c (.sl 5 [] (some [])), .c (.v (.int .i64 0)), .c (.sl 1 [] (some []))]), (6000, .blk 0 [.c (.v (.int .i64 y1)), .c (.v (.int .u64 y4)), .c (.v (.int .u64 y7)), .c (.v (.int .i64 y10)), .c (.v (.int .i64 y13)), .c (.v (.bool j21)), .c (.v (.int .i64 j25)), .c (.v (.int .i64 j26)), .c (.v (.string j27)), .c (.sl 3 [] (some [])), .c (.sl 5 [] (some [])), .c (.v (.int .i64 y30)), .t 102000 0 (O.len z40)]), (11000, .blk 0 [.c (.sl 1 z38 none), .c (.v (.int .i64 z39))]), (102000, .arr 0 1 z40 none false)], 1⟩)) ∧ p45_3L False fu  K0 y1 y4 y7 y10 y13 j21 j25 j26 j27 nilE nilE y30 n z38 z39 z40 z41) (fun n => n) fu ⟨j36, j37, nilE, y33, (.inl ⟨rfl, (by (conv => lhs; cbv) <;> (subst hO; rfl)), (by (conv => lhs; cbv) <;> (subst hO; rfl))⟩), h⟩ ?_
          rintro n1 tm m L ⟨z38, z39, z40, z41, hs, h⟩ hLn1
          cases n1 with
          | zero => rw [p45_3L] at h; exact h.elim
          | succ n1 =>
            rw [p45_3L] at h
            unfold p45_3 at h
            rcases hs with hs | hs
            · obtain ⟨rfl, rfl, rfl⟩ := hs
              conv => cbv
              refine reg_join hO tiA [2, 4, 5, 6, 90] [3000, 6000, 11000] [] (fun tm m => ∃ (j42 : Bool), ((tm = frame 0 120 [(2, .p 3000 0 0), (4, .p 11000 0 0), (5, .p 6000 0 0), (6, .c (.v (.int .i64 z41))), (90, .c (.v (.bool j42)))] ∧ m = ⟨[(3000, .blk 0 [.c (.v (.int .i64 0)), .c (.v (.int .u64 0)), .c (.v (.int .u64 0)), .c (.v (.int .i64 0)), .c (.v (.int .i64 0)), .c (.v (.bool false)), .c (.v (.int .i64 0)), .c (.v (.int .i64 0)), .c (.v (.string ⟨#[]⟩)), .c (.sl 3 [] (some [])), .c (.sl 5 [] (some [])), .c (.v (.int .i64 0)), .c (.sl 1 [] (some []))]), (6000, .blk 0 [.c (.v (.int .i64 y1)), .c (.v (.int .u64 y4)), .c (.v (.int .u64 y7)), .c (.v (.int .i64 y10)), .c (.v (.int .i64 y13)), .c (.v (.bool j21)), .c (.v (.int .i64 j25)), .c (.v (.int .i64 j26)), .c (.v (.string j27)), .c (.sl 3 [] (some [])), .c (.sl 5 [] (some [])), .c (.v (.int .i64 y30)), .c (.sl 1 [] (some []))]), (11000, .blk 0 [.c (.sl 1 z38 none), .c (.v (.int .i64 z39))])], 1⟩)) ∧ p45_2 False fu  K0 (p45_3L False fu  K0  y1 y4 y7 y10 y13 j21 j25 j26 j27 nilE nilE y30 n1) y1 y4 y7 y10 y13 j21 j25 j26 j27 nilE nilE y30 z38 z39 nilE z41 j42) (fun L hL_2 => ?_) ?_
              · conv => cbv
                refine br_h hO h (by subst hO; rfl) (fun hc4 h => ?_) (fun hc4 h => ?_)
                · conv => cbv
                  refine br_t hO hc4 ?_
                  conv => cbv
                  refine br_t hO hc4 ?_
                  conv => cbv
                  refine br_t hO hc4 ?_
                  conv => cbv
                  refine br_t hO hc4 ?_
                  conv => cbv
                  refine br_t hO hc4 ?_
                  conv => cbv
                  refine br_t hO hc4 ?_
                  conv => cbv
                  exact hL_2 _ _ ⟨(cmpStd .eql z39 0), ⟨(by (conv => lhs; cbv) <;> (subst hO; rfl)), (by (conv => lhs; cbv) <;> (subst hO; rfl))⟩, h⟩
                · conv => cbv
                  refine br_f hO hc4 ?_
                  conv => cbv
                  refine br_f hO hc4 ?_
                  conv => cbv
                  refine br_f hO hc4 ?_
                  conv => cbv
                  refine br_f hO hc4 ?_
                  conv => cbv
                  refine br_f hO hc4 ?_
                  conv => cbv
                  refine br_f hO hc4 ?_
                  conv => cbv
                  exact hL_2 _ _ ⟨false, ⟨(by (conv => lhs; cbv) <;> (subst hO; rfl)), (by (conv => lhs; cbv) <;> (subst hO; rfl))⟩, h⟩
              · rintro tm m ⟨j42, hs, h⟩
                unfold p45_2 at h
                obtain ⟨rfl, rfl⟩ := hs
                conv => cbv
                refine br_h hO h (by subst hO; rfl) (fun hc1 h => ?_) (fun hc1 h => ?_)
                · conv => cbv
                  refine join_all hO ?_
                  conv => cbv
                  refine drawn_of hO tiA [[11000], [], [], [], []] [(0, true, false), (1, true, false), (2, true, false), (3, true, false), (4, true, false), (5, false, false), (6, true, false), (7, false, false), (8, false, true), (9, true, true), (10, false, true)] (by kernel_rfl) ?_
                  conv => cbv
                  refine call_h hO [.ref 2, .shut] (d_p95 fu O.len hN h) ?_
                  intro os Q hos hQ
                  conv => cbv
                  refine ⟨(by (rw [hos]) <;> (subst hO; rfl)), ?_⟩
                  intro r bs hq
                  rw [hQ] at hq
                  clear hos hQ h
                  obtain ⟨y43, y44, y45, _, ⟨rfl, rfl⟩, h⟩ := hq
                  conv => cbv
                  refine ⟨agree_of hO (Nat.le_of_ble_eq_true rfl) rfl, ?_⟩
                  refine tob_h hO h (by subst hO; rfl) (fun s46 h => ?_)
                  conv => cbv
                  refine ⟨agree_of hO (Nat.le_of_ble_eq_true rfl) rfl, ?_⟩
                  refine view_h hO h (fun g => (by subst hO; exact g)) (fun h => ?_)
                  conv => cbv
                  refine and_h h (fun g => (by subst hO; exact g)) (fun h => ?_)
                  refine emp_no hO (by subst hO; exact List.cons_ne_nil _ _) ?_
                  conv => cbv
                  refine join_all hO ?_
                  conv => cbv
                  exact hLn1 n1 _ _ (Nat.lt_succ_self n1) ⟨y44, y45, (nilE ++ (List.take 1 [[(CV.v (.string s46))]])), binStd .sub .i64 z41 1, (.inr ⟨(by (conv => lhs; cbv) <;> (subst hO; rfl)), (by (conv => lhs; cbv) <;> (subst hO; rfl))⟩), h⟩
                · conv => cbv
                  refine reg_join hO tiA [2, 5, 117] [3000, 6000] [] (fun tm m => ∃ (j47 : Bool), ((tm = frame 0 120 [(2, .p 3000 0 0), (5, .p 6000 0 0), (117, .c (.v (.bool j47)))] ∧ m = ⟨[(3000, .blk 0 [.c (.v (.int .i64 0)), .c (.v (.int .u64 0)), .c (.v (.int .u64 0)), .c (.v (.int .i64 0)), .c (.v (.int .i64 0)), .c (.v (.bool false)), .c (.v (.int .i64 0)), .c (.v (.int .i64 0)), .c (.v (.string ⟨#[]⟩)), .c (.sl 3 [] (some [])), .c (.sl 5 [] (some [])), .c (.v (.int .i64 0)), .c (.sl 1 [] (some []))]), (6000, .blk 0 [.c (.v (.int .i64 y1)), .c (.v (.int .u64 y4)), .c (.v (.int .u64 y7)), .c (.v (.int .i64 y10)), .c (.v (.int .i64 y13)), .c (.v (.bool j21)), .c (.v (.int .i64 j25)), .c (.v (.int .i64 j26)), .c (.v (.string j27)), .c (.sl 3 [] (some [])), .c (.sl 5 [] (some [])), .c (.v (.int .i64 y30)), .c (.sl 1 [] (some []))])], 1⟩)) ∧ p45_1 False fu  K0 y1 y4 y7 y10 y13 j21 j25 j26 j27 nilE nilE y30 nilE j47) (fun L hL_1 => ?_) ?_
                  · conv => cbv
                    refine br_h hO h (by subst hO; rfl) (fun hc3 h => ?_) (fun hc3 h => ?_)
                    · conv => cbv
                      refine br_t hO hc3 ?_
                      conv => cbv
                      refine br_t hO hc3 ?_
                      conv => cbv
                      refine br_t hO hc3 ?_
                      conv => cbv
                      refine br_t hO hc3 ?_
                      conv => cbv
                      refine br_t hO hc3 ?_
                      conv => cbv
                      refine br_t hO hc3 ?_
                      conv => cbv
                      refine br_t hO hc3 ?_
                      conv => cbv
                      exact hL_1 _ _ ⟨true, ⟨(by (conv => lhs; cbv) <;> (subst hO; rfl)), (by (conv => lhs; cbv) <;> (subst hO; rfl))⟩, h⟩
                    · conv => cbv
                      refine br_f hO hc3 ?_
                      conv => cbv
                      refine br_f hO hc3 ?_
                      conv => cbv
                      refine br_f hO hc3 ?_
                      conv => cbv
                      refine br_f hO hc3 ?_
                      conv => cbv
                      refine br_f hO hc3 ?_
                      conv => cbv
                      refine br_f hO hc3 ?_
                      conv => cbv
                      refine br_f hO hc3 ?_
                      conv => cbv
                      exact hL_1 _ _ ⟨(cmpStd .gtr ((z38.length : Nat) : Int) 0), ⟨(by (conv => lhs; cbv) <;> (subst hO; rfl)), (by (conv => lhs; cbv) <;> (subst hO; rfl))⟩, h⟩
                  · rintro tm m ⟨j47, hs, h⟩
                    unfold p45_1 at h
                    obtain ⟨rfl, rfl⟩ := hs
                    conv => cbv
                    refine br_h hO h (by subst hO; rfl) (fun hc2 h => ?_) (fun hc2 h => ?_)
                    · conv => cbv
                      rw [hQ]
                      exact ⟨0, 0, 0, 0, 0, false, 0, 0, ⟨#[]⟩, nilE, nilE, 0, nilE, 5, _, ⟨(by subst hO; rfl), (by subst hO; rfl)⟩, h⟩
                    · conv => cbv
                      refine join_all hO ?_
                      conv => cbv
                      rw [hQ]
                      exact ⟨y1, y4, y7, y10, y13, j21, j25, j26, j27, nilE, nilE, y30, nilE, 0, _, ⟨(by subst hO; rfl), (by subst hO; rfl)⟩, h⟩
            · obtain ⟨rfl, rfl⟩ := hs
              conv => cbv
              refine reg_join hO tiA [2, 4, 5, 6, 90] [3000, 6000, 11000, 102000] [] (fun tm m => ∃ (j42 : Bool), ((tm = frame 0 120 [(2, .p 3000 0 0), (4, .p 11000 0 0), (5, .p 6000 0 0), (6, .c (.v (.int .i64 z41))), (90, .c (.v (.bool j42)))] ∧ m = ⟨[(3000, .blk 0 [.c (.v (.int .i64 0)), .c (.v (.int .u64 0)), .c (.v (.int .u64 0)), .c (.v (.int .i64 0)), .c (.v (.int .i64 0)), .c (.v (.bool false)), .c (.v (.int .i64 0)), .c (.v (.int .i64 0)), .c (.v (.string ⟨#[]⟩)), .c (.sl 3 [] (some [])), .c (.sl 5 [] (some [])), .c (.v (.int .i64 0)), .c (.sl 1 [] (some []))]), (6000, .blk 0 [.c (.v (.int .i64 y1)), .c (.v (.int .u64 y4)), .c (.v (.int .u64 y7)), .c (.v (.int .i64 y10)), .c (.v (.int .i64 y13)), .c (.v (.bool j21)), .c (.v (.int .i64 j25)), .c (.v (.int .i64 j26)), .c (.v (.string j27)), .c (.sl 3 [] (some [])), .c (.sl 5 [] (some [])), .c (.v (.int .i64 y30)), .t 102000 0 (O.len z40)]), (11000, .blk 0 [.c (.sl 1 z38 none), .c (.v (.int .i64 z39))]), (102000, .arr 0 1 z40 none false)], 1⟩)) ∧ p45_2 False fu  K0 (p45_3L False fu  K0  y1 y4 y7 y10 y13 j21 j25 j26 j27 nilE nilE y30 n1) y1 y4 y7 y10 y13 j21 j25 j26 j27 nilE nilE y30 z38 z39 z40 z41 j42) (fun L hL_2 => ?_) ?_
              · conv => cbv
                refine br_h hO h (by subst hO; rfl) (fun hc4 h => ?_) (fun hc4 h => ?_)
                · conv => cbv
                  refine br_t hO hc4 ?_
                  conv => cbv
                  refine br_t hO hc4 ?_
                  conv => cbv
                  refine br_t hO hc4 ?_
                  conv => cbv
                  refine br_t hO hc4 ?_
                  conv => cbv
                  refine br_t hO hc4 ?_
                  conv => cbv
                  refine br_t hO hc4 ?_
                  conv => cbv
                  exact hL_2 _ _ ⟨(cmpStd .eql z39 0), ⟨(by (conv => lhs; cbv) <;> (subst hO; rfl)), (by (conv => lhs; cbv) <;> (subst hO; rfl))⟩, h⟩
                · conv => cbv
                  refine br_f hO hc4 ?_
                  conv => cbv
                  refine br_f hO hc4 ?_
                  conv => cbv
                  refine br_f hO hc4 ?_
                  conv => cbv
                  refine br_f hO hc4 ?_
                  conv => cbv
                  refine br_f hO hc4 ?_
                  conv => cbv
                  refine br_f hO hc4 ?_
                  conv => cbv
                  exact hL_2 _ _ ⟨false, ⟨(by (conv => lhs; cbv) <;> (subst hO; rfl)), (by (conv => lhs; cbv) <;> (subst hO; rfl))⟩, h⟩
              · rintro tm m ⟨j42, hs, h⟩
                unfold p45_2 at h
                obtain ⟨rfl, rfl⟩ := hs
                conv => cbv
                refine br_h hO h (by subst hO; rfl) (fun hc1 h => ?_) (fun hc1 h => ?_)
                · conv => cbv
                  refine join_all hO ?_
                  conv => cbv
                  refine drawn_of hO tiA [[11000], [], [], [], []] [(0, true, false), (1, true, false), (2, true, false), (3, true, false), (4, true, false), (5, false, false), (6, true, false), (7, false, false), (8, false, true), (9, true, true), (10, false, true)] (by kernel_rfl) ?_
                  conv => cbv
                  refine call_h hO [.ref 2, .shut] (d_p95 fu O.len hN h) ?_
                  intro os Q hos hQ
                  conv => cbv
                  refine ⟨(by (rw [hos]) <;> (subst hO; rfl)), ?_⟩
                  intro r bs hq
                  rw [hQ] at hq
                  clear hos hQ h
                  obtain ⟨y43, y44, y45, _, ⟨rfl, rfl⟩, h⟩ := hq
                  conv => cbv
                  refine ⟨agree_of hO (Nat.le_of_ble_eq_true rfl) rfl, ?_⟩
                  refine tob_h hO h (by subst hO; rfl) (fun s46 h => ?_)
                  conv => cbv
                  refine ⟨agree_of hO (Nat.le_of_ble_eq_true rfl) rfl, ?_⟩
                  refine view_h hO h (fun g => (by subst hO; exact g)) (fun h => ?_)
                  conv => cbv
                  refine ⟨(by subst hO; rfl), ?_⟩
                  refine and_h h (fun g => (by subst hO; exact g)) (fun h => ?_)
                  refine join_all hO ?_
                  conv => cbv
                  exact hLn1 n1 _ _ (Nat.lt_succ_self n1) ⟨y44, y45, (z40 ++ (List.take 1 [[(CV.v (.string s46))]])), binStd .sub .i64 z41 1, (.inr ⟨(by (conv => lhs; cbv) <;> (subst hO; rfl)), (by (conv => lhs; cbv) <;> (subst hO; rfl))⟩), h⟩
                · conv => cbv
                  refine reg_join hO tiA [2, 5, 117] [3000, 6000, 102000] [] (fun tm m => ∃ (j47 : Bool), ((tm = frame 0 120 [(2, .p 3000 0 0), (5, .p 6000 0 0), (117, .c (.v (.bool j47)))] ∧ m = ⟨[(3000, .blk 0 [.c (.v (.int .i64 0)), .c (.v (.int .u64 0)), .c (.v (.int .u64 0)), .c (.v (.int .i64 0)), .c (.v (.int .i64 0)), .c (.v (.bool false)), .c (.v (.int .i64 0)), .c (.v (.int .i64 0)), .c (.v (.string ⟨#[]⟩)), .c (.sl 3 [] (some [])), .c (.sl 5 [] (some [])), .c (.v (.int .i64 0)), .c (.sl 1 [] (some []))]), (6000, .blk 0 [.c (.v (.int .i64 y1)), .c (.v (.int .u64 y4)), .c (.v (.int .u64 y7)), .c (.v (.int .i64 y10)), .c (.v (.int .i64 y13)), .c (.v (.bool j21)), .c (.v (.int .i64 j25)), .c (.v (.int .i64 j26)), .c (.v (.string j27)), .c (.sl 3 [] (some [])), .c (.sl 5 [] (some [])), .c (.v (.int .i64 y30)), .t 102000 0 (O.len z40)]), (102000, .arr 0 1 z40 none false)], 1⟩)) ∧ p45_1 False fu  K0 y1 y4 y7 y10 y13 j21 j25 j26 j27 nilE nilE y30 z40 j47) (fun L hL_1 => ?_) ?_
                  · conv => cbv
                    refine br_h hO h (by subst hO; rfl) (fun hc3 h => ?_) (fun hc3 h => ?_)
                    · conv => cbv
                      refine br_t hO hc3 ?_
                      conv => cbv
                      refine br_t hO hc3 ?_
                      conv => cbv
                      refine br_t hO hc3 ?_
                      conv => cbv
                      refine br_t hO hc3 ?_
                      conv => cbv
                      refine br_t hO hc3 ?_
                      conv => cbv
                      refine br_t hO hc3 ?_
                      conv => cbv
                      refine br_t hO hc3 ?_
                      conv => cbv
                      exact hL_1 _ _ ⟨true, ⟨(by (conv => lhs; cbv) <;> (subst hO; rfl)), (by (conv => lhs; cbv) <;> (subst hO; rfl))⟩, h⟩
                    · conv => cbv
                      refine br_f hO hc3 ?_
                      conv => cbv
                      refine br_f hO hc3 ?_
                      conv => cbv
                      refine br_f hO hc3 ?_
                      conv => cbv
                      refine br_f hO hc3 ?_
                      conv => cbv
                      refine br_f hO hc3 ?_
                      conv => cbv
                      refine br_f hO hc3 ?_
                      conv => cbv
                      refine br_f hO hc3 ?_
                      conv => cbv
                      exact hL_1 _ _ ⟨(cmpStd .gtr ((z38.length : Nat) : Int) 0), ⟨(by (conv => lhs; cbv) <;> (subst hO; rfl)), (by (conv => lhs; cbv) <;> (subst hO; rfl))⟩, h⟩
                  · rintro tm m ⟨j47, hs, h⟩
                    unfold p45_1 at h
                    obtain ⟨rfl, rfl⟩ := hs
                    conv => cbv
                    refine br_h hO h (by subst hO; rfl) (fun hc2 h => ?_) (fun hc2 h => ?_)
                    · conv => cbv
                      rw [hQ]
                      exact ⟨0, 0, 0, 0, 0, false, 0, 0, ⟨#[]⟩, nilE, nilE, 0, nilE, 5, _, ⟨(by subst hO; rfl), (by subst hO; rfl)⟩, h⟩
                    · conv => cbv
                      refine join_all hO ?_
                      conv => cbv
                      refine view_full hO ?_
                      conv => cbv
                      rw [hQ]
                      exact ⟨y1, y4, y7, y10, y13, j21, j25, j26, j27, nilE, nilE, y30, z40, 0, _, ⟨(by subst hO; rfl), (by subst hO; rfl)⟩, h⟩
end Go.Proofs.Ythncmjlcmlmnmaa
