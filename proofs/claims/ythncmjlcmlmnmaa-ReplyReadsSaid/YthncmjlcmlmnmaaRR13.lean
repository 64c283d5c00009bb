/- Functions without memory, and that the Go functions are followed by them. Printed by gen.py. Conditions: none. -/
import Derived.Test.YthncmjlcmlmnmaaG
import Derived.Test.YthncmjlcmlmnmaaPR
import Derived.Test.YthncmjlcmlmnmaaRR9
import Derived.Test.YthncmjlcmlmnmaaRR12
import Derived.Test.YthncmjlcmlmnmaaRR10
namespace Go.Proofs.Ythncmjlcmlmnmaa
open Go V
set_option maxRecDepth 100000
set_option maxHeartbeats 4000000
def p46_1 {ρ : Type} (fail : ρ) (fu : Nat)  (K0 : Int → Int → Int → Int → Int → Bool → Int → Int → ByteArray → EL → EL → Int → EL → Int → ρ)  (y1 : Int) (y5 : Int) (y6 : Int) (y10 : Int) (y14 : Int) (j25 : Bool) (j30 : Int) (j31 : Int) (j32 : ByteArray) (j33 : EL) (j34 : EL) (y35 : Int) (z46 : EL) (j53 : Bool) : ρ :=
  bif j53 then (K0 0 0 0 0 0 false 0 0 ⟨#[]⟩ nilE nilE 0 nilE 5) else (K0 y1 y5 y6 y10 y14 j25 j30 j31 j32 j33 j34 y35 z46 0)
def p46_2 {ρ : Type} (fail : ρ) (fu : Nat)  (K0 : Int → Int → Int → Int → Int → Bool → Int → Int → ByteArray → EL → EL → Int → EL → Int → ρ) (rec1 : EL → Int → Int → EL → Int → ρ) (x0 : EL) (y1 : Int) (y5 : Int) (y6 : Int) (y10 : Int) (y14 : Int) (j25 : Bool) (j30 : Int) (j31 : Int) (j32 : ByteArray) (j33 : EL) (j34 : EL) (y35 : Int) (z43 : EL) (z44 : Int) (z45 : Int) (z46 : EL) (z47 : Int) (j48 : Bool) : ρ :=
  bif j48 then (p98 fail fu (fun y49 y50 y51 y52 => gd (1 ≤ [[(CV.v (.string y49))]].length) fail (gd ((z46.length + (List.take 1 [[(CV.v (.string y49))]]).length) * 16 ≤ 35184372088832) fail (rec1 y50 y51 y52 (z46 ++ (List.take 1 [[(CV.v (.string y49))]])) (binStd .add .i64 z47 1)))) z43 z44 z45) else (bif (cmpStd .neq z45 0) then (p46_1 fail fu  K0 y1 y5 y6 y10 y14 j25 j30 j31 j32 j33 j34 y35 z46 true) else (tobP fail x0 (fun s54 => p44 fail fu (fun y55 => tobP fail y55 (fun s56 => p46_1 fail fu  K0 y1 y5 y6 y10 y14 j25 j30 j31 j32 j33 j34 y35 z46 (scmpStd .neq s56 s54))) nilE y1 y5 y6 y10 y14 j25 j30 j31 j32 j33 j34 y35 z46)))
def p46_3 {ρ : Type} (fail : ρ) (fu : Nat)  (K0 : Int → Int → Int → Int → Int → Bool → Int → Int → ByteArray → EL → EL → Int → EL → Int → ρ) (rec1 : EL → Int → Int → EL → Int → ρ) (x0 : EL) (y1 : Int) (y5 : Int) (y6 : Int) (y10 : Int) (y14 : Int) (j25 : Bool) (j30 : Int) (j31 : Int) (j32 : ByteArray) (j33 : EL) (j34 : EL) (y35 : Int) (y39 : Int) (z43 : EL) (z44 : Int) (z45 : Int) (z46 : EL) (z47 : Int) : ρ :=
  bif (cmpStd .lss z47 y39) then (bif (cmpStd .leq z47 65536) then (p46_2 fail fu  K0 rec1 x0 y1 y5 y6 y10 y14 j25 j30 j31 j32 j33 j34 y35 z43 z44 z45 z46 z47 (cmpStd .eql z45 0)) else (p46_2 fail fu  K0 rec1 x0 y1 y5 y6 y10 y14 j25 j30 j31 j32 j33 j34 y35 z43 z44 z45 z46 z47 false)) else (p46_2 fail fu  K0 rec1 x0 y1 y5 y6 y10 y14 j25 j30 j31 j32 j33 j34 y35 z43 z44 z45 z46 z47 false)
def p46_3L {ρ : Type} (fail : ρ) (fu : Nat)  (K0 : Int → Int → Int → Int → Int → Bool → Int → Int → ByteArray → EL → EL → Int → EL → Int → ρ)  (x0 : EL) (y1 : Int) (y5 : Int) (y6 : Int) (y10 : Int) (y14 : Int) (j25 : Bool) (j30 : Int) (j31 : Int) (j32 : ByteArray) (j33 : EL) (j34 : EL) (y35 : Int) (y39 : Int) : Nat → EL → Int → Int → EL → Int → ρ
  | 0, _, _, _, _, _ => fail
  | n + 1, z43, z44, z45, z46, z47 => p46_3 fail fu  K0 (p46_3L fail fu  K0  x0 y1 y5 y6 y10 y14 j25 j30 j31 j32 j33 j34 y35 y39 n) x0 y1 y5 y6 y10 y14 j25 j30 j31 j32 j33 j34 y35 y39 z43 z44 z45 z46 z47
def p46_4 {ρ : Type} (fail : ρ) (fu : Nat)  (K0 : Int → Int → Int → Int → Int → Bool → Int → Int → ByteArray → EL → EL → Int → EL → Int → ρ)  (x0 : EL) (y1 : Int) (y5 : Int) (y6 : Int) (y10 : Int) (y14 : Int) (j25 : Bool) (j27 : EL) (j28 : Int) (j29 : Int) (j30 : Int) (j31 : Int) (j32 : ByteArray) (j33 : EL) (j34 : EL) : ρ :=
  p96 fail fu (fun y35 y36 y37 y38 => p96 fail fu (fun y39 y40 y41 y42 => p46_3L fail fu  K0 x0 y1 y5 y6 y10 y14 j25 j30 j31 j32 j33 j34 y35 y39 fu y40 y41 y42 nilE 0) y36 y37 y38) j27 j28 j29
def p46_5 {ρ : Type} (fail : ρ) (fu : Nat)  (K0 : Int → Int → Int → Int → Int → Bool → Int → Int → ByteArray → EL → EL → Int → EL → Int → ρ)  (x0 : EL) (y1 : Int) (y5 : Int) (y6 : Int) (y10 : Int) (y14 : Int) (j22 : EL) (j23 : Int) (j24 : Int) (j25 : Bool) (j26 : Bool) : ρ :=
  bif j26 then (p75 fail fu (fun y57 y58 y59 y60 y61 y62 y63 y64 => p46_4 fail fu  K0 x0 y1 y5 y6 y10 y14 j25 y62 y63 y64 y57 y58 y59 y60 y61) j22 j23 j24) else (p46_4 fail fu  K0 x0 y1 y5 y6 y10 y14 j25 j22 j23 j24 0 0 ⟨#[]⟩ nilE nilE)
/-- ref25.TakeReply -/
def p46 {ρ : Type} (fail : ρ) (fu : Nat)  (K0 : Int → Int → Int → Int → Int → Bool → Int → Int → ByteArray → EL → EL → Int → EL → Int → ρ) (x0 : EL) : ρ :=
  p96 fail fu (fun y1 y2 y3 y4 => p97 fail fu (fun y5 y6 y7 y8 y9 => p96 fail fu (fun y10 y11 y12 y13 => p96 fail fu (fun y14 y15 y16 y17 => p96 fail fu (fun y18 y19 y20 y21 => p96 fail fu (fun y65 y66 y67 y68 => bif (cmpStd .eql y65 1) then (p46_5 fail fu  K0 x0 y1 y5 y6 y10 y14 y66 y67 y68 (cmpStd .eql y18 1) (cmpStd .eql y68 0)) else (p46_5 fail fu  K0 x0 y1 y5 y6 y10 y14 y66 y67 y68 (cmpStd .eql y18 1) false)) y19 y20 y21) y15 y16 y17) y11 y12 y13) y7 y8 y9) y2 y3 y4) x0 0 0
theorem d_p46 (fu : Nat)  {K0 : Int → Int → Int → Int → Int → Bool → Int → Int → ByteArray → EL → EL → Int → EL → Int → Prop} (L : EL → Nat) (hN : L = List.length) {x0 : EL} (h : p46 False fu K0 x0) : Den Try.prog G0 46 [.c (.sl 1 x0 none)] (fun r bs => (∃ (y0 : Int) (y1 : Int) (y2 : Int) (y3 : Int) (y4 : Int) (y5 : Bool) (y6 : Int) (y7 : Int) (y8 : ByteArray) (y9 : EL) (y10 : EL) (y11 : Int) (y12 : EL) (y13 : Int) (o0 : OV), (r = .tup [.agg [.c (.v (.int .i64 y0)), .c (.v (.int .u64 y1)), .c (.v (.int .u64 y2)), .c (.v (.int .i64 y3)), .c (.v (.int .i64 y4)), .c (.v (.bool y5)), .c (.v (.int .i64 y6)), .c (.v (.int .i64 y7)), .c (.v (.string y8)), .c (.sl 3 y9 none), .c (.sl 5 y10 none), .c (.v (.int .i64 y11)), .c (.sl 1 y12 none)], .c (.v (.int .i64 y13))] ∧ bs = [o0]) ∧ K0 y0 y1 y2 y3 y4 y5 y6 y7 y8 y9 y10 y11 y12 y13)) := by
  obtain ⟨O, hO⟩ : ∃ O, O = std 0 T G0 (Den Try.prog G0) := ⟨_, rfl⟩
  have hLO : L = O.len := by rw [hN, hO]; rfl
  subst hLO
  refine den_h hO tiA mixed tabOk (fn := Try.f46) (sh := true) (by kernel_rfl) rfl rfl rfl rfl ?_
  intro Q hQ
  unfold p46 at h
  conv => cbv
  refine call_h hO [.ref 3] (d_p96 fu O.len hN h) ?_
  intro os Q hos hQ
  conv => cbv
  refine ⟨(by (rw [hos]) <;> (subst hO; rfl)), ?_⟩
  intro r bs hq
  rw [hQ] at hq
  clear hos hQ h
  obtain ⟨y1, y2, y3, y4, ⟨rfl, rfl⟩, h⟩ := hq
  conv => cbv
  refine call_h hO [.ref 3] (d_p97 fu O.len hN h) ?_
  intro os Q hos hQ
  conv => cbv
  refine ⟨(by (rw [hos]) <;> (subst hO; rfl)), ?_⟩
  intro r bs hq
  rw [hQ] at hq
  clear hos hQ h
  obtain ⟨y5, y6, y7, y8, y9, ⟨rfl, rfl⟩, h⟩ := hq
  conv => cbv
  refine call_h hO [.ref 3] (d_p96 fu O.len hN h) ?_
  intro os Q hos hQ
  conv => cbv
  refine ⟨(by (rw [hos]) <;> (subst hO; rfl)), ?_⟩
  intro r bs hq
  rw [hQ] at hq
  clear hos hQ h
  obtain ⟨y10, y11, y12, y13, ⟨rfl, rfl⟩, h⟩ := hq
  conv => cbv
  refine call_h hO [.ref 3] (d_p96 fu O.len hN h) ?_
  intro os Q hos hQ
  conv => cbv
  refine ⟨(by (rw [hos]) <;> (subst hO; rfl)), ?_⟩
  intro r bs hq
  rw [hQ] at hq
  clear hos hQ h
  obtain ⟨y14, y15, y16, y17, ⟨rfl, rfl⟩, h⟩ := hq
  conv => cbv
  refine call_h hO [.ref 3] (d_p96 fu O.len hN h) ?_
  intro os Q hos hQ
  conv => cbv
  refine ⟨(by (rw [hos]) <;> (subst hO; rfl)), ?_⟩
  intro r bs hq
  rw [hQ] at hq
  clear hos hQ h
  obtain ⟨y18, y19, y20, y21, ⟨rfl, rfl⟩, h⟩ := hq
  conv => cbv
  refine reg_join hO tiA [0, 2, 4, 5, 36] [3000, 6000, 11000] [] (fun tm m => ∃ (j22 : EL) (j23 : Int) (j24 : Int) (j25 : Bool) (j26 : Bool), ((tm = frame 0 83 [(0, .c (.sl 1 x0 none)), (2, .p 3000 0 0), (4, .p 11000 0 0), (5, .p 6000 0 0), (36, .c (.v (.bool j26)))] ∧ m = ⟨[(3000, .blk 0 [.c (.v (.int .i64 0)), .c (.v (.int .u64 0)), .c (.v (.int .u64 0)), .c (.v (.int .i64 0)), .c (.v (.int .i64 0)), .c (.v (.bool false)), .c (.v (.int .i64 0)), .c (.v (.int .i64 0)), .c (.v (.string ⟨#[]⟩)), .c (.sl 3 [] (some [])), .c (.sl 5 [] (some [])), .c (.v (.int .i64 0)), .c (.sl 1 [] (some []))]), (6000, .blk 0 [.c (.v (.int .i64 y1)), .c (.v (.int .u64 y5)), .c (.v (.int .u64 y6)), .c (.v (.int .i64 y10)), .c (.v (.int .i64 y14)), .c (.v (.bool j25)), .c (.v (.int .i64 0)), .c (.v (.int .i64 0)), .c (.v (.string ⟨#[]⟩)), .c (.sl 3 [] (some [])), .c (.sl 5 [] (some [])), .c (.v (.int .i64 0)), .c (.sl 1 [] (some []))]), (11000, .blk 0 [.c (.sl 1 j22 none), .c (.v (.int .i64 j23)), .c (.v (.int .i64 j24))])], 1⟩)) ∧ p46_5 False fu  K0 x0 y1 y5 y6 y10 y14 j22 j23 j24 j25 j26) (fun L hL_5 => ?_) ?_
  · conv => cbv
    refine call_h hO [.ref 3] (d_p96 fu O.len hN h) ?_
    intro os Q hos hQ
    conv => cbv
    refine ⟨(by (rw [hos]) <;> (subst hO; rfl)), ?_⟩
    intro r bs hq
    rw [hQ] at hq
    clear hos hQ h
    obtain ⟨y65, y66, y67, y68, ⟨rfl, rfl⟩, h⟩ := hq
    conv => cbv
    refine br_h hO h (by subst hO; rfl) (fun hc7 h => ?_) (fun hc7 h => ?_)
    · conv => cbv
      refine br_t hO hc7 ?_
      conv => cbv
      refine br_t hO hc7 ?_
      conv => cbv
      refine br_t hO hc7 ?_
      conv => cbv
      refine br_t hO hc7 ?_
      conv => cbv
      refine br_t hO hc7 ?_
      conv => cbv
      exact hL_5 _ _ ⟨y66, y67, y68, (cmpStd .eql y18 1), (cmpStd .eql y68 0), ⟨(by (conv => lhs; cbv) <;> (subst hO; rfl)), (by (conv => lhs; cbv) <;> (subst hO; rfl))⟩, h⟩
    · conv => cbv
      refine br_f hO hc7 ?_
      conv => cbv
      refine br_f hO hc7 ?_
      conv => cbv
      refine br_f hO hc7 ?_
      conv => cbv
      refine br_f hO hc7 ?_
      conv => cbv
      refine br_f hO hc7 ?_
      conv => cbv
      exact hL_5 _ _ ⟨y66, y67, y68, (cmpStd .eql y18 1), false, ⟨(by (conv => lhs; cbv) <;> (subst hO; rfl)), (by (conv => lhs; cbv) <;> (subst hO; rfl))⟩, h⟩
  · rintro tm m ⟨j22, j23, j24, j25, j26, hs, h⟩
    unfold p46_5 at h
    obtain ⟨rfl, rfl⟩ := hs
    conv => cbv
    refine br_join_h hO tiA h (by subst hO; rfl) [0, 2, 4, 5] [3000, 6000, 11000] [] (fun tm m => ∃ (j27 : EL) (j28 : Int) (j29 : Int) (j30 : Int) (j31 : Int) (j32 : ByteArray) (j33 : EL) (j34 : EL), ((tm = frame 0 83 [(0, .c (.sl 1 x0 none)), (2, .p 3000 0 0), (4, .p 11000 0 0), (5, .p 6000 0 0)] ∧ m = ⟨[(3000, .blk 0 [.c (.v (.int .i64 0)), .c (.v (.int .u64 0)), .c (.v (.int .u64 0)), .c (.v (.int .i64 0)), .c (.v (.int .i64 0)), .c (.v (.bool false)), .c (.v (.int .i64 0)), .c (.v (.int .i64 0)), .c (.v (.string ⟨#[]⟩)), .c (.sl 3 [] (some [])), .c (.sl 5 [] (some [])), .c (.v (.int .i64 0)), .c (.sl 1 [] (some []))]), (6000, .blk 0 [.c (.v (.int .i64 y1)), .c (.v (.int .u64 y5)), .c (.v (.int .u64 y6)), .c (.v (.int .i64 y10)), .c (.v (.int .i64 y14)), .c (.v (.bool j25)), .c (.v (.int .i64 j30)), .c (.v (.int .i64 j31)), .c (.v (.string j32)), .c (.sl 3 j33 none), .c (.sl 5 j34 none), .c (.v (.int .i64 0)), .c (.sl 1 [] (some []))]), (11000, .blk 0 [.c (.sl 1 j27 none), .c (.v (.int .i64 j28)), .c (.v (.int .i64 j29))])], 1⟩) ∨ (j33 = [] ∧ j34 = [] ∧ tm = frame 0 83 [(0, .c (.sl 1 x0 none)), (2, .p 3000 0 0), (4, .p 11000 0 0), (5, .p 6000 0 0)] ∧ m = ⟨[(3000, .blk 0 [.c (.v (.int .i64 0)), .c (.v (.int .u64 0)), .c (.v (.int .u64 0)), .c (.v (.int .i64 0)), .c (.v (.int .i64 0)), .c (.v (.bool false)), .c (.v (.int .i64 0)), .c (.v (.int .i64 0)), .c (.v (.string ⟨#[]⟩)), .c (.sl 3 [] (some [])), .c (.sl 5 [] (some [])), .c (.v (.int .i64 0)), .c (.sl 1 [] (some []))]), (6000, .blk 0 [.c (.v (.int .i64 y1)), .c (.v (.int .u64 y5)), .c (.v (.int .u64 y6)), .c (.v (.int .i64 y10)), .c (.v (.int .i64 y14)), .c (.v (.bool j25)), .c (.v (.int .i64 j30)), .c (.v (.int .i64 j31)), .c (.v (.string j32)), .c (.sl 3 [] (some [])), .c (.sl 5 [] (some [])), .c (.v (.int .i64 0)), .c (.sl 1 [] (some []))]), (11000, .blk 0 [.c (.sl 1 j27 none), .c (.v (.int .i64 j28)), .c (.v (.int .i64 j29))])], 1⟩)) ∧ p46_4 False fu  K0 x0 y1 y5 y6 y10 y14 j25 j27 j28 j29 j30 j31 j32 j33 j34) (fun hc6 h L hL_4 => ?_) (fun hc6 h L hL_4 => ?_) ?_
    · conv => cbv
      refine call_h hO [.ref 3] (d_p75 fu O.len hN h) ?_
      intro os Q hos hQ
      conv => cbv
      refine ⟨(by (rw [hos]) <;> (subst hO; rfl)), ?_⟩
      intro r bs hq
      rw [hQ] at hq
      clear hos hQ h
      obtain ⟨y57, y58, y59, y60, y61, y62, y63, y64, ⟨rfl, rfl⟩, h⟩ := hq
      conv => cbv
      exact hL_4 _ _ ⟨y62, y63, y64, y57, y58, y59, y60, y61, (.inl ⟨(by (conv => lhs; cbv) <;> (subst hO; rfl)), (by (conv => lhs; cbv) <;> (subst hO; rfl))⟩), h⟩
    · conv => cbv
      exact hL_4 _ _ ⟨j22, j23, j24, 0, 0, ⟨#[]⟩, nilE, nilE, (.inr ⟨rfl, rfl, (by (conv => lhs; cbv) <;> (subst hO; rfl)), (by (conv => lhs; cbv) <;> (subst hO; rfl))⟩), h⟩
    · rintro tm m ⟨j27, j28, j29, j30, j31, j32, j33, j34, hs, h⟩
      unfold p46_4 at h
      rcases hs with hs | hs
      · obtain ⟨rfl, rfl⟩ := hs
        conv => cbv
        refine call_h hO [.ref 3] (d_p96 fu O.len hN h) ?_
        intro os Q hos hQ
        conv => cbv
        refine ⟨(by (rw [hos]) <;> (subst hO; rfl)), ?_⟩
        intro r bs hq
        rw [hQ] at hq
        clear hos hQ h
        obtain ⟨y35, y36, y37, y38, ⟨rfl, rfl⟩, h⟩ := hq
        conv => cbv
        refine call_h hO [.ref 3] (d_p96 fu O.len hN h) ?_
        intro os Q hos hQ
        conv => cbv
        refine ⟨(by (rw [hos]) <;> (subst hO; rfl)), ?_⟩
        intro r bs hq
        rw [hQ] at hq
        clear hos hQ h
        obtain ⟨y39, y40, y41, y42, ⟨rfl, rfl⟩, h⟩ := hq
        conv => cbv
        refine loop_of hO tiA [0, 2, 4, 5, 6, 7] [3000, 6000, 11000, 67000] [] (fun (n : Nat) tm m => ∃ (z43 : EL) (z44 : Int) (z45 : Int) (z46 : EL) (z47 : Int), ((z46 = [] ∧ tm = frame 0 83 [(0, .c (.sl 1 x0 none)), (2, .p 3000 0 0), (4, .p 11000 0 0), (5, .p 6000 0 0), (6, .c (.v (.int .i64 y39))), (7, .c (.v (.int .i64 z47)))] ∧ m = ⟨[(3000, .blk 0 [.c (.v (.int .i64 0)), .c (.v (.int .u64 0)), .c (.v (.int .u64 0)), .c (.v (.int .i64 0)), .c (.v (.int .i64 0)), .c (.v (.bool false)), .c (.v (.int .i64 0)), .c (.v (.int .i64 0)), .c (.v (.string ⟨#[]⟩)), .c (.sl 3 [] (some [])), .c (.sl 5 [] (some [])), .c (.v (.int .i64 0)), .c (.sl 1 [] (some []))]), (6000, .blk 0 [.c (.v (.int .i64 y1)), .c (.v (.int .u64 y5)), .c (.v (.int .u64 y6)), .c (.v (.int .i64 y10)), .c (.v (.int .i64 y14)), .c (.v (.bool j25)), .c (.v (.int .i64 j30)), .c (.v (.int .i64 j31)), .c (.v (.string j32)), .c (.sl 3 j33 none), .c (.sl 5 j34 none), .c (.v (.int .i64 y35)), .c (.sl 1 [] (some []))]), (11000, .blk 0 [.c (.sl 1 z43 none), .c (.v (.int .i64 z44)), .c (.v (.int .i64 z45))])], 1⟩) ∨ (tm = frame 0 83 [(0, .c (.sl 1 x0 none)), (2, .p 3000 0 0), (4, .p 11000 0 0), (5, .p 6000 0 0), (6, .c (.v (.int .i64 y39))), (7, .c (.v (.int .i64 z47)))] ∧ m = ⟨[(3000, .blk 0 [.c (.v (.int .i64 0)), .c (.v (.int .u64 0)), .c (.v (.int .u64 0)), .c (.v (.int .i64 0)), .c (.v (.int .i64 0)), .c (.v (.bool false)), .c (.v (.int .i64 0)), .c (.v (.int .i64 0)), .c (.v (.string ⟨#[]⟩)), .c (.sl 3 [] (some [])), .c (.sl 5 [] (some [])), .c (.v (.int .i64 0)), .c (.sl 1 [] (some []))]), (6000, .blk 0 [.c (.v (.int .i64 y1)), .c (.v (.int .u64 y5)), .c (.v (.int .u64 y6)), .c (.v (.int .i64 y10)), .c (.v (.int .i64 y14)), .c (.v (.bool j25)), .c (.v (.int .i64 j30)), .c (.v (.int .i64 j31)), .c (.v (.string j32)), .c (.sl 3 j33 none), .c (.sl 5 j34 none), .c (.v (.int .i64 y35)), .t 67000 0 (O.len z46)]), (11000, .blk 0 [.c (.sl 1 z43 none), .c (.v (.int .i64 z44)), .c (.v (.int .i64 z45))]), (67000, .arr 0 1 z46 none false)], 1⟩)) ∧ p46_3L False fu  K0 x0 y1 y5 y6 y10 y14 j25 j30 j31 j32 j33 j34 y35 y39 n z43 z44 z45 z46 z47) (fun n => n) fu ⟨y40, y41, y42, nilE, 0, (.inl ⟨rfl, (by (conv => lhs; cbv) <;> (subst hO; rfl)), (by (conv => lhs; cbv) <;> (subst hO; rfl))⟩), h⟩ ?_
        rintro n1 tm m L ⟨z43, z44, z45, z46, z47, hs, h⟩ hLn1
        cases n1 with
        | zero => rw [p46_3L] at h; exact h.elim
        | succ n1 =>
          rw [p46_3L] at h
          unfold p46_3 at h
          rcases hs with hs | hs
          · obtain ⟨rfl, rfl, rfl⟩ := hs
            conv => cbv
            refine reg_join hO tiA [0, 2, 4, 5, 6, 7, 58] [3000, 6000, 11000] [] (fun tm m => ∃ (j48 : Bool), ((tm = frame 0 83 [(0, .c (.sl 1 x0 none)), (2, .p 3000 0 0), (4, .p 11000 0 0), (5, .p 6000 0 0), (6, .c (.v (.int .i64 y39))), (7, .c (.v (.int .i64 z47))), (58, .c (.v (.bool j48)))] ∧ m = ⟨[(3000, .blk 0 [.c (.v (.int .i64 0)), .c (.v (.int .u64 0)), .c (.v (.int .u64 0)), .c (.v (.int .i64 0)), .c (.v (.int .i64 0)), .c (.v (.bool false)), .c (.v (.int .i64 0)), .c (.v (.int .i64 0)), .c (.v (.string ⟨#[]⟩)), .c (.sl 3 [] (some [])), .c (.sl 5 [] (some [])), .c (.v (.int .i64 0)), .c (.sl 1 [] (some []))]), (6000, .blk 0 [.c (.v (.int .i64 y1)), .c (.v (.int .u64 y5)), .c (.v (.int .u64 y6)), .c (.v (.int .i64 y10)), .c (.v (.int .i64 y14)), .c (.v (.bool j25)), .c (.v (.int .i64 j30)), .c (.v (.int .i64 j31)), .c (.v (.string j32)), .c (.sl 3 j33 none), .c (.sl 5 j34 none), .c (.v (.int .i64 y35)), .c (.sl 1 [] (some []))]), (11000, .blk 0 [.c (.sl 1 z43 none), .c (.v (.int .i64 z44)), .c (.v (.int .i64 z45))])], 1⟩)) ∧ p46_2 False fu  K0 (p46_3L False fu  K0  x0 y1 y5 y6 y10 y14 j25 j30 j31 j32 j33 j34 y35 y39 n1) x0 y1 y5 y6 y10 y14 j25 j30 j31 j32 j33 j34 y35 z43 z44 z45 nilE z47 j48) (fun L hL_2 => ?_) ?_
            · conv => cbv
              refine br_h hO h (by subst hO; rfl) (fun hc4 h => ?_) (fun hc4 h => ?_)
              · conv => cbv
                refine br_t hO hc4 ?_
                conv => cbv
                refine br_t hO hc4 ?_
                conv => cbv
                refine br_h hO h (by subst hO; rfl) (fun hc5 h => ?_) (fun hc5 h => ?_)
                · conv => cbv
                  refine br_t hO hc5 ?_
                  conv => cbv
                  refine br_t hO hc5 ?_
                  conv => cbv
                  refine br_t hO hc5 ?_
                  conv => cbv
                  refine br_t hO hc5 ?_
                  conv => cbv
                  refine br_t hO hc5 ?_
                  conv => cbv
                  exact hL_2 _ _ ⟨(cmpStd .eql z45 0), ⟨(by (conv => lhs; cbv) <;> (subst hO; rfl)), (by (conv => lhs; cbv) <;> (subst hO; rfl))⟩, h⟩
                · conv => cbv
                  refine br_f hO hc5 ?_
                  conv => cbv
                  refine br_f hO hc5 ?_
                  conv => cbv
                  refine br_f hO hc5 ?_
                  conv => cbv
                  refine br_f hO hc5 ?_
                  conv => cbv
                  refine br_f hO hc5 ?_
                  conv => cbv
                  exact hL_2 _ _ ⟨false, ⟨(by (conv => lhs; cbv) <;> (subst hO; rfl)), (by (conv => lhs; cbv) <;> (subst hO; rfl))⟩, h⟩
              · conv => cbv
                refine br_f hO hc4 ?_
                conv => cbv
                refine br_f hO hc4 ?_
                conv => cbv
                refine br_f hO rfl ?_
                conv => cbv
                refine br_f hO rfl ?_
                conv => cbv
                refine br_f hO rfl ?_
                conv => cbv
                refine br_f hO rfl ?_
                conv => cbv
                refine br_f hO rfl ?_
                conv => cbv
                refine br_f hO rfl ?_
                conv => cbv
                exact hL_2 _ _ ⟨false, ⟨(by (conv => lhs; cbv) <;> (subst hO; rfl)), (by (conv => lhs; cbv) <;> (subst hO; rfl))⟩, h⟩
            · rintro tm m ⟨j48, hs, h⟩
              unfold p46_2 at h
              obtain ⟨rfl, rfl⟩ := hs
              conv => cbv
              refine br_h hO h (by subst hO; rfl) (fun hc1 h => ?_) (fun hc1 h => ?_)
              · conv => cbv
                refine join_all hO ?_
                conv => cbv
                refine drawn_of hO tiA [[11000], [], [], [], []] [(0, true, false), (1, true, false), (2, true, false), (3, false, false), (4, false, false), (5, false, true), (6, true, true), (7, false, true)] (by kernel_rfl) ?_
                conv => cbv
                refine call_h hO [.ref 3] (d_p98 fu O.len hN h) ?_
                intro os Q hos hQ
                conv => cbv
                refine ⟨(by (rw [hos]) <;> (subst hO; rfl)), ?_⟩
                intro r bs hq
                rw [hQ] at hq
                clear hos hQ h
                obtain ⟨y49, y50, y51, y52, ⟨rfl, rfl⟩, h⟩ := hq
                conv => cbv
                refine ⟨agree_of hO (Nat.le_of_ble_eq_true rfl) rfl, ?_⟩
                refine ⟨agree_of hO (Nat.le_of_ble_eq_true rfl) rfl, ?_⟩
                refine view_h hO h (fun g => (by subst hO; exact g)) (fun h => ?_)
                conv => cbv
                refine and_h h (fun g => (by subst hO; exact g)) (fun h => ?_)
                refine emp_no hO (by subst hO; exact List.cons_ne_nil _ _) ?_
                conv => cbv
                refine join_all hO ?_
                conv => cbv
                exact hLn1 n1 _ _ (Nat.lt_succ_self n1) ⟨y50, y51, y52, (nilE ++ (List.take 1 [[(CV.v (.string y49))]])), binStd .add .i64 z47 1, (.inr ⟨(by (conv => lhs; cbv) <;> (subst hO; rfl)), (by (conv => lhs; cbv) <;> (subst hO; rfl))⟩), h⟩
              · conv => cbv
                refine drawn_join hO tiA [[], []] [(0, true, false), (1, true, false), (2, true, false), (3, true, false), (4, true, false), (5, true, false), (6, true, false), (9, true, false), (10, true, false), (7, false, false), (8, true, false), (11, true, true), (12, true, true)] (by kernel_rfl) [2, 5, 80] [3000, 6000] [] (fun tm m => ∃ (j53 : Bool), ((tm = frame 0 83 [(2, .p 3000 0 0), (5, .p 6000 0 0), (80, .c (.v (.bool j53)))] ∧ m = ⟨[(3000, .blk 0 [.c (.v (.int .i64 0)), .c (.v (.int .u64 0)), .c (.v (.int .u64 0)), .c (.v (.int .i64 0)), .c (.v (.int .i64 0)), .c (.v (.bool false)), .c (.v (.int .i64 0)), .c (.v (.int .i64 0)), .c (.v (.string ⟨#[]⟩)), .c (.sl 3 [] (some [])), .c (.sl 5 [] (some [])), .c (.v (.int .i64 0)), .c (.sl 1 [] (some []))]), (6000, .blk 0 [.c (.v (.int .i64 y1)), .c (.v (.int .u64 y5)), .c (.v (.int .u64 y6)), .c (.v (.int .i64 y10)), .c (.v (.int .i64 y14)), .c (.v (.bool j25)), .c (.v (.int .i64 j30)), .c (.v (.int .i64 j31)), .c (.v (.string j32)), .c (.sl 3 j33 none), .c (.sl 5 j34 none), .c (.v (.int .i64 y35)), .c (.sl 1 [] (some []))])], 1⟩)) ∧ p46_1 False fu  K0 y1 y5 y6 y10 y14 j25 j30 j31 j32 j33 j34 y35 nilE j53) (fun L hL_1 => ?_) ?_
                · conv => cbv
                  refine br_h hO h (by subst hO; rfl) (fun hc3 h => ?_) (fun hc3 h => ?_)
                  · conv => cbv
                    refine br_t hO hc3 ?_
                    conv => cbv
                    refine br_t hO hc3 ?_
                    conv => cbv
                    refine br_t hO hc3 ?_
                    conv => cbv
                    refine br_t hO hc3 ?_
                    conv => cbv
                    refine br_t hO hc3 ?_
                    conv => cbv
                    refine br_t hO hc3 ?_
                    conv => cbv
                    exact hL_1 _ _ ⟨true, ⟨(by (conv => lhs; cbv) <;> (subst hO; rfl)), (by (conv => lhs; cbv) <;> (subst hO; rfl))⟩, h⟩
                  · conv => cbv
                    refine br_f hO hc3 ?_
                    conv => cbv
                    refine br_f hO hc3 ?_
                    conv => cbv
                    refine tob_h hO h (by subst hO; rfl) (fun s54 h => ?_)
                    conv => cbv
                    refine br_f hO hc3 ?_
                    conv => cbv
                    refine call_h hO [.shut, .shut] (d_p44 fu O.len hN h) ?_
                    intro os Q hos hQ
                    conv => cbv
                    refine ⟨(by (rw [hos]) <;> (subst hO; rfl)), ?_⟩
                    intro r bs hq
                    rw [hQ] at hq
                    clear hos hQ h
                    obtain ⟨y55, _, _, ⟨rfl, rfl⟩, h⟩ := hq
                    conv => cbv
                    refine ⟨agree_of hO (Nat.le_of_ble_eq_true rfl) rfl, ?_⟩
                    refine br_f hO hc3 ?_
                    conv => cbv
                    refine tob_h hO h (by subst hO; rfl) (fun s56 h => ?_)
                    conv => cbv
                    refine br_f hO hc3 ?_
                    conv => cbv
                    refine br_f hO hc3 ?_
                    conv => cbv
                    exact hL_1 _ _ ⟨(scmpStd .neq s56 s54), ⟨(by (conv => lhs; cbv) <;> (subst hO; rfl)), (by (conv => lhs; cbv) <;> (subst hO; rfl))⟩, h⟩
                · rintro tm m ⟨j53, hs, h⟩
                  unfold p46_1 at h
                  obtain ⟨rfl, rfl⟩ := hs
                  conv => cbv
                  refine br_h hO h (by subst hO; rfl) (fun hc2 h => ?_) (fun hc2 h => ?_)
                  · conv => cbv
                    rw [hQ]
                    exact ⟨0, 0, 0, 0, 0, false, 0, 0, ⟨#[]⟩, nilE, nilE, 0, nilE, 5, _, ⟨(by subst hO; rfl), (by subst hO; rfl)⟩, h⟩
                  · conv => cbv
                    refine join_all hO ?_
                    conv => cbv
                    rw [hQ]
                    exact ⟨y1, y5, y6, y10, y14, j25, j30, j31, j32, j33, j34, y35, nilE, 0, _, ⟨(by subst hO; rfl), (by subst hO; rfl)⟩, h⟩
          · obtain ⟨rfl, rfl⟩ := hs
            conv => cbv
            refine reg_join hO tiA [0, 2, 4, 5, 6, 7, 58] [3000, 6000, 11000, 67000] [] (fun tm m => ∃ (j48 : Bool), ((tm = frame 0 83 [(0, .c (.sl 1 x0 none)), (2, .p 3000 0 0), (4, .p 11000 0 0), (5, .p 6000 0 0), (6, .c (.v (.int .i64 y39))), (7, .c (.v (.int .i64 z47))), (58, .c (.v (.bool j48)))] ∧ m = ⟨[(3000, .blk 0 [.c (.v (.int .i64 0)), .c (.v (.int .u64 0)), .c (.v (.int .u64 0)), .c (.v (.int .i64 0)), .c (.v (.int .i64 0)), .c (.v (.bool false)), .c (.v (.int .i64 0)), .c (.v (.int .i64 0)), .c (.v (.string ⟨#[]⟩)), .c (.sl 3 [] (some [])), .c (.sl 5 [] (some [])), .c (.v (.int .i64 0)), .c (.sl 1 [] (some []))]), (6000, .blk 0 [.c (.v (.int .i64 y1)), .c (.v (.int .u64 y5)), .c (.v (.int .u64 y6)), .c (.v (.int .i64 y10)), .c (.v (.int .i64 y14)), .c (.v (.bool j25)), .c (.v (.int .i64 j30)), .c (.v (.int .i64 j31)), .c (.v (.string j32)), .c (.sl 3 j33 none), .c (.sl 5 j34 none), .c (.v (.int .i64 y35)), .t 67000 0 (O.len z46)]), (11000, .blk 0 [.c (.sl 1 z43 none), .c (.v (.int .i64 z44)), .c (.v (.int .i64 z45))]), (67000, .arr 0 1 z46 none false)], 1⟩)) ∧ p46_2 False fu  K0 (p46_3L False fu  K0  x0 y1 y5 y6 y10 y14 j25 j30 j31 j32 j33 j34 y35 y39 n1) x0 y1 y5 y6 y10 y14 j25 j30 j31 j32 j33 j34 y35 z43 z44 z45 z46 z47 j48) (fun L hL_2 => ?_) ?_
            · conv => cbv
              refine br_h hO h (by subst hO; rfl) (fun hc4 h => ?_) (fun hc4 h => ?_)
              · conv => cbv
                refine br_t hO hc4 ?_
                conv => cbv
                refine br_t hO hc4 ?_
                conv => cbv
                refine br_h hO h (by subst hO; rfl) (fun hc5 h => ?_) (fun hc5 h => ?_)
                · conv => cbv
                  refine br_t hO hc5 ?_
                  conv => cbv
                  refine br_t hO hc5 ?_
                  conv => cbv
                  refine br_t hO hc5 ?_
                  conv => cbv
                  refine br_t hO hc5 ?_
                  conv => cbv
                  refine br_t hO hc5 ?_
                  conv => cbv
                  exact hL_2 _ _ ⟨(cmpStd .eql z45 0), ⟨(by (conv => lhs; cbv) <;> (subst hO; rfl)), (by (conv => lhs; cbv) <;> (subst hO; rfl))⟩, h⟩
                · conv => cbv
                  refine br_f hO hc5 ?_
                  conv => cbv
                  refine br_f hO hc5 ?_
                  conv => cbv
                  refine br_f hO hc5 ?_
                  conv => cbv
                  refine br_f hO hc5 ?_
                  conv => cbv
                  refine br_f hO hc5 ?_
                  conv => cbv
                  exact hL_2 _ _ ⟨false, ⟨(by (conv => lhs; cbv) <;> (subst hO; rfl)), (by (conv => lhs; cbv) <;> (subst hO; rfl))⟩, h⟩
              · conv => cbv
                refine br_f hO hc4 ?_
                conv => cbv
                refine br_f hO hc4 ?_
                conv => cbv
                refine br_f hO rfl ?_
                conv => cbv
                refine br_f hO rfl ?_
                conv => cbv
                refine br_f hO rfl ?_
                conv => cbv
                refine br_f hO rfl ?_
                conv => cbv
                refine br_f hO rfl ?_
                conv => cbv
                refine br_f hO rfl ?_
                conv => cbv
                exact hL_2 _ _ ⟨false, ⟨(by (conv => lhs; cbv) <;> (subst hO; rfl)), (by (conv => lhs; cbv) <;> (subst hO; rfl))⟩, h⟩
            · rintro tm m ⟨j48, hs, h⟩
              unfold p46_2 at h
              obtain ⟨rfl, rfl⟩ := hs
              conv => cbv
              refine br_h hO h (by subst hO; rfl) (fun hc1 h => ?_) (fun hc1 h => ?_)
              · conv => cbv
                refine join_all hO ?_
                conv => cbv
                refine drawn_of hO tiA [[11000], [], [], [], []] [(0, true, false), (1, true, false), (2, true, false), (3, false, false), (4, false, false), (5, false, true), (6, true, true), (7, false, true)] (by kernel_rfl) ?_
                conv => cbv
                refine call_h hO [.ref 3] (d_p98 fu O.len hN h) ?_
                intro os Q hos hQ
                conv => cbv
                refine ⟨(by (rw [hos]) <;> (subst hO; rfl)), ?_⟩
                intro r bs hq
                rw [hQ] at hq
                clear hos hQ h
                obtain ⟨y49, y50, y51, y52, ⟨rfl, rfl⟩, h⟩ := hq
                conv => cbv
                refine ⟨agree_of hO (Nat.le_of_ble_eq_true rfl) rfl, ?_⟩
                refine ⟨agree_of hO (Nat.le_of_ble_eq_true rfl) rfl, ?_⟩
                refine view_h hO h (fun g => (by subst hO; exact g)) (fun h => ?_)
                conv => cbv
                refine ⟨(by subst hO; rfl), ?_⟩
                refine and_h h (fun g => (by subst hO; exact g)) (fun h => ?_)
                refine join_all hO ?_
                conv => cbv
                exact hLn1 n1 _ _ (Nat.lt_succ_self n1) ⟨y50, y51, y52, (z46 ++ (List.take 1 [[(CV.v (.string y49))]])), binStd .add .i64 z47 1, (.inr ⟨(by (conv => lhs; cbv) <;> (subst hO; rfl)), (by (conv => lhs; cbv) <;> (subst hO; rfl))⟩), h⟩
              · conv => cbv
                refine drawn_join hO tiA [[67000], []] [(0, true, false), (1, true, false), (2, true, false), (3, true, false), (4, true, false), (5, true, false), (6, true, false), (9, true, false), (10, true, false), (7, false, false), (8, true, false), (11, true, true), (12, true, true)] (by kernel_rfl) [2, 5, 80] [3000, 6000, 67000] [] (fun tm m => ∃ (j53 : Bool), ((tm = frame 0 83 [(2, .p 3000 0 0), (5, .p 6000 0 0), (80, .c (.v (.bool j53)))] ∧ m = ⟨[(3000, .blk 0 [.c (.v (.int .i64 0)), .c (.v (.int .u64 0)), .c (.v (.int .u64 0)), .c (.v (.int .i64 0)), .c (.v (.int .i64 0)), .c (.v (.bool false)), .c (.v (.int .i64 0)), .c (.v (.int .i64 0)), .c (.v (.string ⟨#[]⟩)), .c (.sl 3 [] (some [])), .c (.sl 5 [] (some [])), .c (.v (.int .i64 0)), .c (.sl 1 [] (some []))]), (6000, .blk 0 [.c (.v (.int .i64 y1)), .c (.v (.int .u64 y5)), .c (.v (.int .u64 y6)), .c (.v (.int .i64 y10)), .c (.v (.int .i64 y14)), .c (.v (.bool j25)), .c (.v (.int .i64 j30)), .c (.v (.int .i64 j31)), .c (.v (.string j32)), .c (.sl 3 j33 none), .c (.sl 5 j34 none), .c (.v (.int .i64 y35)), .t 67000 0 (O.len z46)]), (67000, .arr 0 1 z46 none false)], 1⟩) ∨ (tm = frame 0 83 [(2, .p 3000 0 0), (5, .p 6000 0 0), (80, .c (.v (.bool j53)))] ∧ m = ⟨[(3000, .blk 0 [.c (.v (.int .i64 0)), .c (.v (.int .u64 0)), .c (.v (.int .u64 0)), .c (.v (.int .i64 0)), .c (.v (.int .i64 0)), .c (.v (.bool false)), .c (.v (.int .i64 0)), .c (.v (.int .i64 0)), .c (.v (.string ⟨#[]⟩)), .c (.sl 3 [] (some [])), .c (.sl 5 [] (some [])), .c (.v (.int .i64 0)), .c (.sl 1 [] (some []))]), (6000, .blk 0 [.c (.v (.int .i64 y1)), .c (.v (.int .u64 y5)), .c (.v (.int .u64 y6)), .c (.v (.int .i64 y10)), .c (.v (.int .i64 y14)), .c (.v (.bool j25)), .c (.v (.int .i64 j30)), .c (.v (.int .i64 j31)), .c (.v (.string j32)), .c (.sl 3 j33 none), .c (.sl 5 j34 none), .c (.v (.int .i64 y35)), .t 67000 0 (O.len z46)]), (67000, .arr 0 1 z46 none true)], 1⟩)) ∧ p46_1 False fu  K0 y1 y5 y6 y10 y14 j25 j30 j31 j32 j33 j34 y35 z46 j53) (fun L hL_1 => ?_) ?_
                · conv => cbv
                  refine br_h hO h (by subst hO; rfl) (fun hc3 h => ?_) (fun hc3 h => ?_)
                  · conv => cbv
                    refine br_t hO hc3 ?_
                    conv => cbv
                    refine br_t hO hc3 ?_
                    conv => cbv
                    refine br_t hO hc3 ?_
                    conv => cbv
                    refine br_t hO hc3 ?_
                    conv => cbv
                    refine br_t hO hc3 ?_
                    conv => cbv
                    refine br_t hO hc3 ?_
                    conv => cbv
                    exact hL_1 _ _ ⟨true, (.inl ⟨(by (conv => lhs; cbv) <;> (subst hO; rfl)), (by (conv => lhs; cbv) <;> (subst hO; rfl))⟩), h⟩
                  · conv => cbv
                    refine br_f hO hc3 ?_
                    conv => cbv
                    refine br_f hO hc3 ?_
                    conv => cbv
                    refine tob_h hO h (by subst hO; rfl) (fun s54 h => ?_)
                    conv => cbv
                    refine br_f hO hc3 ?_
                    conv => cbv
                    refine call_h hO [.shut, .shut] (d_p44 fu O.len hN h) ?_
                    intro os Q hos hQ
                    conv => cbv
                    refine view_full hO ?_
                    conv => cbv
                    refine ⟨(by (rw [hos]) <;> (subst hO; rfl)), ?_⟩
                    intro r bs hq
                    rw [hQ] at hq
                    clear hos hQ h
                    obtain ⟨y55, _, _, ⟨rfl, rfl⟩, h⟩ := hq
                    conv => cbv
                    refine ⟨agree_of hO (Nat.le_of_ble_eq_true rfl) rfl, ?_⟩
                    refine br_f hO hc3 ?_
                    conv => cbv
                    refine tob_h hO h (by subst hO; rfl) (fun s56 h => ?_)
                    conv => cbv
                    refine br_f hO hc3 ?_
                    conv => cbv
                    refine br_f hO hc3 ?_
                    conv => cbv
                    exact hL_1 _ _ ⟨(scmpStd .neq s56 s54), (.inr ⟨(by (conv => lhs; cbv) <;> (subst hO; rfl)), (by (conv => lhs; cbv) <;> (subst hO; rfl))⟩), h⟩
                · rintro tm m ⟨j53, hs, h⟩
                  unfold p46_1 at h
                  rcases hs with hs | hs
                  · obtain ⟨rfl, rfl⟩ := hs
                    conv => cbv
                    refine br_h hO h (by subst hO; rfl) (fun hc2 h => ?_) (fun hc2 h => ?_)
                    · conv => cbv
                      rw [hQ]
                      exact ⟨0, 0, 0, 0, 0, false, 0, 0, ⟨#[]⟩, nilE, nilE, 0, nilE, 5, _, ⟨(by subst hO; rfl), (by subst hO; rfl)⟩, h⟩
                    · conv => cbv
                      refine join_all hO ?_
                      conv => cbv
                      refine view_full hO ?_
                      conv => cbv
                      rw [hQ]
                      exact ⟨y1, y5, y6, y10, y14, j25, j30, j31, j32, j33, j34, y35, z46, 0, _, ⟨(by subst hO; rfl), (by subst hO; rfl)⟩, h⟩
                  · obtain ⟨rfl, rfl⟩ := hs
                    conv => cbv
                    refine br_h hO h (by subst hO; rfl) (fun hc2 h => ?_) (fun hc2 h => ?_)
                    · conv => cbv
                      rw [hQ]
                      exact ⟨0, 0, 0, 0, 0, false, 0, 0, ⟨#[]⟩, nilE, nilE, 0, nilE, 5, _, ⟨(by subst hO; rfl), (by subst hO; rfl)⟩, h⟩
                    · conv => cbv
                      refine join_all hO ?_
                      conv => cbv
                      refine view_full hO ?_
                      conv => cbv
                      rw [hQ]
                      exact ⟨y1, y5, y6, y10, y14, j25, j30, j31, j32, j33, j34, y35, z46, 0, _, ⟨(by subst hO; rfl), (by subst hO; rfl)⟩, h⟩
      · obtain ⟨rfl, rfl, rfl, rfl⟩ := hs
        conv => cbv
        refine call_h hO [.ref 3] (d_p96 fu O.len hN h) ?_
        intro os Q hos hQ
        conv => cbv
        refine ⟨(by (rw [hos]) <;> (subst hO; rfl)), ?_⟩
        intro r bs hq
        rw [hQ] at hq
        clear hos hQ h
        obtain ⟨y35, y36, y37, y38, ⟨rfl, rfl⟩, h⟩ := hq
        conv => cbv
        refine call_h hO [.ref 3] (d_p96 fu O.len hN h) ?_
        intro os Q hos hQ
        conv => cbv
        refine ⟨(by (rw [hos]) <;> (subst hO; rfl)), ?_⟩
        intro r bs hq
        rw [hQ] at hq
        clear hos hQ h
        obtain ⟨y39, y40, y41, y42, ⟨rfl, rfl⟩, h⟩ := hq
        conv => cbv
        refine loop_of hO tiA [0, 2, 4, 5, 6, 7] [3000, 6000, 11000, 67000] [] (fun (n : Nat) tm m => ∃ (z43 : EL) (z44 : Int) (z45 : Int) (z46 : EL) (z47 : Int), ((z46 = [] ∧ tm = frame 0 83 [(0, .c (.sl 1 x0 none)), (2, .p 3000 0 0), (4, .p 11000 0 0), (5, .p 6000 0 0), (6, .c (.v (.int .i64 y39))), (7, .c (.v (.int .i64 z47)))] ∧ m = ⟨[(3000, .blk 0 [.c (.v (.int .i64 0)), .c (.v (.int .u64 0)), .c (.v (.int .u64 0)), .c (.v (.int .i64 0)), .c (.v (.int .i64 0)), .c (.v (.bool false)), .c (.v (.int .i64 0)), .c (.v (.int .i64 0)), .c (.v (.string ⟨#[]⟩)), .c (.sl 3 [] (some [])), .c (.sl 5 [] (some [])), .c (.v (.int .i64 0)), .c (.sl 1 [] (some []))]), (6000, .blk 0 [.c (.v (.int .i64 y1)), .c (.v (.int .u64 y5)), .c (.v (.int .u64 y6)), .c (.v (.int .i64 y10)), .c (.v (.int .i64 y14)), .c (.v (.bool j25)), .c (.v (.int .i64 j30)), .c (.v (.int .i64 j31)), .c (.v (.string j32)), .c (.sl 3 [] (some [])), .c (.sl 5 [] (some [])), .c (.v (.int .i64 y35)), .c (.sl 1 [] (some []))]), (11000, .blk 0 [.c (.sl 1 z43 none), .c (.v (.int .i64 z44)), .c (.v (.int .i64 z45))])], 1⟩) ∨ (tm = frame 0 83 [(0, .c (.sl 1 x0 none)), (2, .p 3000 0 0), (4, .p 11000 0 0), (5, .p 6000 0 0), (6, .c (.v (.int .i64 y39))), (7, .c (.v (.int .i64 z47)))] ∧ m = ⟨[(3000, .blk 0 [.c (.v (.int .i64 0)), .c (.v (.int .u64 0)), .c (.v (.int .u64 0)), .c (.v (.int .i64 0)), .c (.v (.int .i64 0)), .c (.v (.bool false)), .c (.v (.int .i64 0)), .c (.v (.int .i64 0)), .c (.v (.string ⟨#[]⟩)), .c (.sl 3 [] (some [])), .c (.sl 5 [] (some [])), .c (.v (.int .i64 0)), .c (.sl 1 [] (some []))]), (6000, .blk 0 [.c (.v (.int .i64 y1)), .c (.v (.int .u64 y5)), .c (.v (.int .u64 y6)), .c (.v (.int .i64 y10)), .c (.v (.int .i64 y14)), .c (.v (.bool j25)), .c (.v (.int .i64 j30)), .c (.v (.int .i64 j31)), .c (.v (.string j32)), .c (.sl 3 [] (some [])), .c (.sl 5 [] (some [])), .c (.v (.int .i64 y35)), .t 67000 0 (O.len z46)]), (11000, .blk 0 [.c (.sl 1 z43 none), .c (.v (.int .i64 z44)), .c (.v (.int .i64 z45))]), (67000, .arr 0 1 z46 none false)], 1⟩)) ∧ p46_3L False fu  K0 x0 y1 y5 y6 y10 y14 j25 j30 j31 j32 nilE nilE y35 y39 n z43 z44 z45 z46 z47) (fun n => n) fu ⟨y40, y41, y42, nilE, 0, (.inl ⟨rfl, (by (conv => lhs; cbv) <;> (subst hO; rfl)), (by (conv => lhs; cbv) <;> (subst hO; rfl))⟩), h⟩ ?_
        rintro n1 tm m L ⟨z43, z44, z45, z46, z47, hs, h⟩ hLn1
        cases n1 with
        | zero => rw [p46_3L] at h; exact h.elim
        | succ n1 =>
          rw [p46_3L] at h
          unfold p46_3 at h
          rcases hs with hs | hs
          · obtain ⟨rfl, rfl, rfl⟩ := hs
            conv => cbv
            refine reg_join hO tiA [0, 2, 4, 5, 6, 7, 58] [3000, 6000, 11000] [] (fun tm m => ∃ (j48 : Bool), ((tm = frame 0 83 [(0, .c (.sl 1 x0 none)), (2, .p 3000 0 0), (4, .p 11000 0 0), (5, .p 6000 0 0), (6, .c (.v (.int .i64 y39))), (7, .c (.v (.int .i64 z47))), (58, .c (.v (.bool j48)))] ∧ m = ⟨[(3000, .blk 0 [.c (.v (.int .i64 0)), .c (.v (.int .u64 0)), .c (.v (.int .u64 0)), .c (.v (.int .i64 0)), .c (.v (.int .i64 0)), .c (.v (.bool false)), .c (.v (.int .i64 0)), .c (.v (.int .i64 0)), .c (.v (.string ⟨#[]⟩)), .c (.sl 3 [] (some [])), .c (.sl 5 [] (some [])), .c (.v (.int .i64 0)), .c (.sl 1 [] (some []))]), (6000, .blk 0 [.c (.v (.int .i64 y1)), .c (.v (.int .u64 y5)), .c (.v (.int .u64 y6)), .c (.v (.int .i64 y10)), .c (.v (.int .i64 y14)), .c (.v (.bool j25)), .c (.v (.int .i64 j30)), .c (.v (.int .i64 j31)), .c (.v (.string j32)), .c (.sl 3 [] (some [])), .c (.sl 5 [] (some [])), .c (.v (.int .i64 y35)), .c (.sl 1 [] (some []))]), (11000, .blk 0 [.c (.sl 1 z43 none), .c (.v (.int .i64 z44)), .c (.v (.int .i64 z45))])], 1⟩)) ∧ p46_2 False fu  K0 (p46_3L False fu  K0  x0 y1 y5 y6 y10 y14 j25 j30 j31 j32 nilE nilE y35 y39 n1) x0 y1 y5 y6 y10 y14 j25 j30 j31 j32 nilE nilE y35 z43 z44 z45 nilE z47 j48) (fun L hL_2 => ?_) ?_
            · conv => cbv
              refine br_h hO h (by subst hO; rfl) (fun hc4 h => ?_) (fun hc4 h => ?_)
              · conv => cbv
                refine br_t hO hc4 ?_
                conv => cbv
                refine br_t hO hc4 ?_
                conv => cbv
                refine br_h hO h (by subst hO; rfl) (fun hc5 h => ?_) (fun hc5 h => ?_)
                · conv => cbv
                  refine br_t hO hc5 ?_
                  conv => cbv
                  refine br_t hO hc5 ?_
                  conv => cbv
                  refine br_t hO hc5 ?_
                  conv => cbv
                  refine br_t hO hc5 ?_
                  conv => cbv
                  refine br_t hO hc5 ?_
                  conv => cbv
                  exact hL_2 _ _ ⟨(cmpStd .eql z45 0), ⟨(by (conv => lhs; cbv) <;> (subst hO; rfl)), (by (conv => lhs; cbv) <;> (subst hO; rfl))⟩, h⟩
                · conv => cbv
                  refine br_f hO hc5 ?_
                  conv => cbv
                  refine br_f hO hc5 ?_
                  conv => cbv
                  refine br_f hO hc5 ?_
                  conv => cbv
                  refine br_f hO hc5 ?_
                  conv => cbv
                  refine br_f hO hc5 ?_
                  conv => cbv
                  exact hL_2 _ _ ⟨false, ⟨(by (conv => lhs; cbv) <;> (subst hO; rfl)), (by (conv => lhs; cbv) <;> (subst hO; rfl))⟩, h⟩
              · conv => cbv
                refine br_f hO hc4 ?_
                conv => cbv
                refine br_f hO hc4 ?_
                conv => cbv
                refine br_f hO rfl ?_
                conv => cbv
                refine br_f hO rfl ?_
                conv => cbv
                refine br_f hO rfl ?_
                conv => cbv
                refine br_f hO rfl ?_
                conv => cbv
                refine br_f hO rfl ?_
                conv => cbv
                refine br_f hO rfl ?_
                conv => cbv
                exact hL_2 _ _ ⟨false, ⟨(by (conv => lhs; cbv) <;> (subst hO; rfl)), (by (conv => lhs; cbv) <;> (subst hO; rfl))⟩, h⟩
            · rintro tm m ⟨j48, hs, h⟩
              unfold p46_2 at h
              obtain ⟨rfl, rfl⟩ := hs
              conv => cbv
              refine br_h hO h (by subst hO; rfl) (fun hc1 h => ?_) (fun hc1 h => ?_)
              · conv => cbv
                refine join_all hO ?_
                conv => cbv
                refine drawn_of hO tiA [[11000], [], [], [], []] [(0, true, false), (1, true, false), (2, true, false), (3, false, false), (4, false, false), (5, false, true), (6, true, true), (7, false, true)] (by kernel_rfl) ?_
                conv => cbv
                refine call_h hO [.ref 3] (d_p98 fu O.len hN h) ?_
                intro os Q hos hQ
                conv => cbv
                refine ⟨(by (rw [hos]) <;> (subst hO; rfl)), ?_⟩
                intro r bs hq
                rw [hQ] at hq
                clear hos hQ h
                obtain ⟨y49, y50, y51, y52, ⟨rfl, rfl⟩, h⟩ := hq
                conv => cbv
                refine ⟨agree_of hO (Nat.le_of_ble_eq_true rfl) rfl, ?_⟩
                refine ⟨agree_of hO (Nat.le_of_ble_eq_true rfl) rfl, ?_⟩
                refine view_h hO h (fun g => (by subst hO; exact g)) (fun h => ?_)
                conv => cbv
                refine and_h h (fun g => (by subst hO; exact g)) (fun h => ?_)
                refine emp_no hO (by subst hO; exact List.cons_ne_nil _ _) ?_
                conv => cbv
                refine join_all hO ?_
                conv => cbv
                exact hLn1 n1 _ _ (Nat.lt_succ_self n1) ⟨y50, y51, y52, (nilE ++ (List.take 1 [[(CV.v (.string y49))]])), binStd .add .i64 z47 1, (.inr ⟨(by (conv => lhs; cbv) <;> (subst hO; rfl)), (by (conv => lhs; cbv) <;> (subst hO; rfl))⟩), h⟩
              · conv => cbv
                refine drawn_join hO tiA [[], []] [(0, true, false), (1, true, false), (2, true, false), (3, true, false), (4, true, false), (5, true, false), (6, true, false), (9, true, false), (10, true, false), (7, false, false), (8, true, false), (11, true, true), (12, true, true)] (by kernel_rfl) [2, 5, 80] [3000, 6000] [] (fun tm m => ∃ (j53 : Bool), ((tm = frame 0 83 [(2, .p 3000 0 0), (5, .p 6000 0 0), (80, .c (.v (.bool j53)))] ∧ m = ⟨[(3000, .blk 0 [.c (.v (.int .i64 0)), .c (.v (.int .u64 0)), .c (.v (.int .u64 0)), .c (.v (.int .i64 0)), .c (.v (.int .i64 0)), .c (.v (.bool false)), .c (.v (.int .i64 0)), .c (.v (.int .i64 0)), .c (.v (.string ⟨#[]⟩)), .c (.sl 3 [] (some [])), .c (.sl 5 [] (some [])), .c (.v (.int .i64 0)), .c (.sl 1 [] (some []))]), (6000, .blk 0 [.c (.v (.int .i64 y1)), .c (.v (.int .u64 y5)), .c (.v (.int .u64 y6)), .c (.v (.int .i64 y10)), .c (.v (.int .i64 y14)), .c (.v (.bool j25)), .c (.v (.int .i64 j30)), .c (.v (.int .i64 j31)), .c (.v (.string j32)), .c (.sl 3 [] (some [])), .c (.sl 5 [] (some [])), .c (.v (.int .i64 y35)), .c (.sl 1 [] (some []))])], 1⟩)) ∧ p46_1 False fu  K0 y1 y5 y6 y10 y14 j25 j30 j31 j32 nilE nilE y35 nilE j53) (fun L hL_1 => ?_) ?_
                · conv => cbv
                  refine br_h hO h (by subst hO; rfl) (fun hc3 h => ?_) (fun hc3 h => ?_)
                  · conv => cbv
                    refine br_t hO hc3 ?_
                    conv => cbv
                    refine br_t hO hc3 ?_
                    conv => cbv
                    refine br_t hO hc3 ?_
                    conv => cbv
                    refine br_t hO hc3 ?_
                    conv => cbv
                    refine br_t hO hc3 ?_
                    conv => cbv
                    refine br_t hO hc3 ?_
                    conv => cbv
                    exact hL_1 _ _ ⟨true, ⟨(by (conv => lhs; cbv) <;> (subst hO; rfl)), (by (conv => lhs; cbv) <;> (subst hO; rfl))⟩, h⟩
                  · conv => cbv
                    refine br_f hO hc3 ?_
                    conv => cbv
                    refine br_f hO hc3 ?_
                    conv => cbv
                    refine tob_h hO h (by subst hO; rfl) (fun s54 h => ?_)
                    conv => cbv
                    refine br_f hO hc3 ?_
                    conv => cbv
                    refine call_h hO [.shut, .shut] (d_p44 fu O.len hN h) ?_
                    intro os Q hos hQ
                    conv => cbv
                    refine ⟨(by (rw [hos]) <;> (subst hO; rfl)), ?_⟩
                    intro r bs hq
                    rw [hQ] at hq
                    clear hos hQ h
                    obtain ⟨y55, _, _, ⟨rfl, rfl⟩, h⟩ := hq
                    conv => cbv
                    refine ⟨agree_of hO (Nat.le_of_ble_eq_true rfl) rfl, ?_⟩
                    refine br_f hO hc3 ?_
                    conv => cbv
                    refine tob_h hO h (by subst hO; rfl) (fun s56 h => ?_)
                    conv => cbv
                    refine br_f hO hc3 ?_
                    conv => cbv
                    refine br_f hO hc3 ?_
                    conv => cbv
                    exact hL_1 _ _ ⟨(scmpStd .neq s56 s54), ⟨(by (conv => lhs; cbv) <;> (subst hO; rfl)), (by (conv => lhs; cbv) <;> (subst hO; rfl))⟩, h⟩
                · rintro tm m ⟨j53, hs, h⟩
                  unfold p46_1 at h
                  obtain ⟨rfl, rfl⟩ := hs
                  conv => cbv
                  refine br_h hO h (by subst hO; rfl) (fun hc2 h => ?_) (fun hc2 h => ?_)
                  · conv => cbv
                    rw [hQ]
                    exact ⟨0, 0, 0, 0, 0, false, 0, 0, ⟨#[]⟩, nilE, nilE, 0, nilE, 5, _, ⟨(by subst hO; rfl), (by subst hO; rfl)⟩, h⟩
                  · conv => cbv
                    refine join_all hO ?_
                    conv => cbv
                    rw [hQ]
                    exact ⟨y1, y5, y6, y10, y14, j25, j30, j31, j32, nilE, nilE, y35, nilE, 0, _, ⟨(by subst hO; rfl), (by subst hO; rfl)⟩, h⟩
          · obtain ⟨rfl, rfl⟩ := hs
            conv => cbv
            refine reg_join hO tiA [0, 2, 4, 5, 6, 7, 58] [3000, 6000, 11000, 67000] [] (fun tm m => ∃ (j48 : Bool), ((tm = frame 0 83 [(0, .c (.sl 1 x0 none)), (2, .p 3000 0 0), (4, .p 11000 0 0), (5, .p 6000 0 0), (6, .c (.v (.int .i64 y39))), (7, .c (.v (.int .i64 z47))), (58, .c (.v (.bool j48)))] ∧ m = ⟨[(3000, .blk 0 [.c (.v (.int .i64 0)), .c (.v (.int .u64 0)), .c (.v (.int .u64 0)), .c (.v (.int .i64 0)), .c (.v (.int .i64 0)), .c (.v (.bool false)), .c (.v (.int .i64 0)), .c (.v (.int .i64 0)), .c (.v (.string ⟨#[]⟩)), .c (.sl 3 [] (some [])), .c (.sl 5 [] (some [])), .c (.v (.int .i64 0)), .c (.sl 1 [] (some []))]), (6000, .blk 0 [.c (.v (.int .i64 y1)), .c (.v (.int .u64 y5)), .c (.v (.int .u64 y6)), .c (.v (.int .i64 y10)), .c (.v (.int .i64 y14)), .c (.v (.bool j25)), .c (.v (.int .i64 j30)), .c (.v (.int .i64 j31)), .c (.v (.string j32)), .c (.sl 3 [] (some [])), .c (.sl 5 [] (some [])), .c (.v (.int .i64 y35)), .t 67000 0 (O.len z46)]), (11000, .blk 0 [.c (.sl 1 z43 none), .c (.v (.int .i64 z44)), .c (.v (.int .i64 z45))]), (67000, .arr 0 1 z46 none false)], 1⟩)) ∧ p46_2 False fu  K0 (p46_3L False fu  K0  x0 y1 y5 y6 y10 y14 j25 j30 j31 j32 nilE nilE y35 y39 n1) x0 y1 y5 y6 y10 y14 j25 j30 j31 j32 nilE nilE y35 z43 z44 z45 z46 z47 j48) (fun L hL_2 => ?_) ?_
            · conv => cbv
              refine br_h hO h (by subst hO; rfl) (fun hc4 h => ?_) (fun hc4 h => ?_)
              · conv => cbv
                refine br_t hO hc4 ?_
                conv => cbv
                refine br_t hO hc4 ?_
                conv => cbv
                refine br_h hO h (by subst hO; rfl) (fun hc5 h => ?_) (fun hc5 h => ?_)
                · conv => cbv
                  refine br_t hO hc5 ?_
                  conv => cbv
                  refine br_t hO hc5 ?_
                  conv => cbv
                  refine br_t hO hc5 ?_
                  conv => cbv
                  refine br_t hO hc5 ?_
                  conv => cbv
                  refine br_t hO hc5 ?_
                  conv => cbv
                  exact hL_2 _ _ ⟨(cmpStd .eql z45 0), ⟨(by (conv => lhs; cbv) <;> (subst hO; rfl)), (by (conv => lhs; cbv) <;> (subst hO; rfl))⟩, h⟩
                · conv => cbv
                  refine br_f hO hc5 ?_
                  conv => cbv
                  refine br_f hO hc5 ?_
                  conv => cbv
                  refine br_f hO hc5 ?_
                  conv => cbv
                  refine br_f hO hc5 ?_
                  conv => cbv
                  refine br_f hO hc5 ?_
                  conv => cbv
                  exact hL_2 _ _ ⟨false, ⟨(by (conv => lhs; cbv) <;> (subst hO; rfl)), (by (conv => lhs; cbv) <;> (subst hO; rfl))⟩, h⟩
              · conv => cbv
                refine br_f hO hc4 ?_
                conv => cbv
                refine br_f hO hc4 ?_
                conv => cbv
                refine br_f hO rfl ?_
                conv => cbv
                refine br_f hO rfl ?_
                conv => cbv
                refine br_f hO rfl ?_
                conv => cbv
                refine br_f hO rfl ?_
                conv => cbv
                refine br_f hO rfl ?_
                conv => cbv
                refine br_f hO rfl ?_
                conv => cbv
                exact hL_2 _ _ ⟨false, ⟨(by (conv => lhs; cbv) <;> (subst hO; rfl)), (by (conv => lhs; cbv) <;> (subst hO; rfl))⟩, h⟩
            · rintro tm m ⟨j48, hs, h⟩
              unfold p46_2 at h
              obtain ⟨rfl, rfl⟩ := hs
              conv => cbv
              refine br_h hO h (by subst hO; rfl) (fun hc1 h => ?_) (fun hc1 h => ?_)
              · conv => cbv
                refine join_all hO ?_
                conv => cbv
                refine drawn_of hO tiA [[11000], [], [], [], []] [(0, true, false), (1, true, false), (2, true, false), (3, false, false), (4, false, false), (5, false, true), (6, true, true), (7, false, true)] (by kernel_rfl) ?_
                conv => cbv
                refine call_h hO [.ref 3] (d_p98 fu O.len hN h) ?_
                intro os Q hos hQ
                conv => cbv
                refine ⟨(by (rw [hos]) <;> (subst hO; rfl)), ?_⟩
                intro r bs hq
                rw [hQ] at hq
                clear hos hQ h
                obtain ⟨y49, y50, y51, y52, ⟨rfl, rfl⟩, h⟩ := hq
                conv => cbv
                refine ⟨agree_of hO (Nat.le_of_ble_eq_true rfl) rfl, ?_⟩
                refine ⟨agree_of hO (Nat.le_of_ble_eq_true rfl) rfl, ?_⟩
                refine view_h hO h (fun g => (by subst hO; exact g)) (fun h => ?_)
                conv => cbv
                refine ⟨(by subst hO; rfl), ?_⟩
                refine and_h h (fun g => (by subst hO; exact g)) (fun h => ?_)
                refine join_all hO ?_
                conv => cbv
                exact hLn1 n1 _ _ (Nat.lt_succ_self n1) ⟨y50, y51, y52, (z46 ++ (List.take 1 [[(CV.v (.string y49))]])), binStd .add .i64 z47 1, (.inr ⟨(by (conv => lhs; cbv) <;> (subst hO; rfl)), (by (conv => lhs; cbv) <;> (subst hO; rfl))⟩), h⟩
              · conv => cbv
                refine drawn_join hO tiA [[67000], []] [(0, true, false), (1, true, false), (2, true, false), (3, true, false), (4, true, false), (5, true, false), (6, true, false), (9, true, false), (10, true, false), (7, false, false), (8, true, false), (11, true, true), (12, true, true)] (by kernel_rfl) [2, 5, 80] [3000, 6000, 67000] [] (fun tm m => ∃ (j53 : Bool), ((tm = frame 0 83 [(2, .p 3000 0 0), (5, .p 6000 0 0), (80, .c (.v (.bool j53)))] ∧ m = ⟨[(3000, .blk 0 [.c (.v (.int .i64 0)), .c (.v (.int .u64 0)), .c (.v (.int .u64 0)), .c (.v (.int .i64 0)), .c (.v (.int .i64 0)), .c (.v (.bool false)), .c (.v (.int .i64 0)), .c (.v (.int .i64 0)), .c (.v (.string ⟨#[]⟩)), .c (.sl 3 [] (some [])), .c (.sl 5 [] (some [])), .c (.v (.int .i64 0)), .c (.sl 1 [] (some []))]), (6000, .blk 0 [.c (.v (.int .i64 y1)), .c (.v (.int .u64 y5)), .c (.v (.int .u64 y6)), .c (.v (.int .i64 y10)), .c (.v (.int .i64 y14)), .c (.v (.bool j25)), .c (.v (.int .i64 j30)), .c (.v (.int .i64 j31)), .c (.v (.string j32)), .c (.sl 3 [] (some [])), .c (.sl 5 [] (some [])), .c (.v (.int .i64 y35)), .t 67000 0 (O.len z46)]), (67000, .arr 0 1 z46 none false)], 1⟩) ∨ (tm = frame 0 83 [(2, .p 3000 0 0), (5, .p 6000 0 0), (80, .c (.v (.bool j53)))] ∧ m = ⟨[(3000, .blk 0 [.c (.v (.int .i64 0)), .c (.v (.int .u64 0)), .c (.v (.int .u64 0)), .c (.v (.int .i64 0)), .c (.v (.int .i64 0)), .c (.v (.bool false)), .c (.v (.int .i64 0)), .c (.v (.int .i64 0)), .c (.v (.string ⟨#[]⟩)), .c (.sl 3 [] (some [])), .c (.sl 5 [] (some [])), .c (.v (.int .i64 0)), .c (.sl 1 [] (some []))]), (6000, .blk 0 [.c (.v (.int .i64 y1)), .c (.v (.int .u64 y5)), .c (.v (.int .u64 y6)), .c (.v (.int .i64 y10)), .c (.v (.int .i64 y14)), .c (.v (.bool j25)), .c (.v (.int .i64 j30)), .c (.v (.int .i64 j31)), .c (.v (.string j32)), .c (.sl 3 [] (some [])), .c (.sl 5 [] (some [])), .c (.v (.int .i64 y35)), .t 67000 0 (O.len z46)]), (67000, .arr 0 1 z46 none true)], 1⟩)) ∧ p46_1 False fu  K0 y1 y5 y6 y10 y14 j25 j30 j31 j32 nilE nilE y35 z46 j53) (fun L hL_1 => ?_) ?_
                · conv => cbv
                  refine br_h hO h (by subst hO; rfl) (fun hc3 h => ?_) (fun hc3 h => ?_)
                  · conv => cbv
                    refine br_t hO hc3 ?_
                    conv => cbv
                    refine br_t hO hc3 ?_
                    conv => cbv
                    refine br_t hO hc3 ?_
                    conv => cbv
                    refine br_t hO hc3 ?_
                    conv => cbv
                    refine br_t hO hc3 ?_
                    conv => cbv
                    refine br_t hO hc3 ?_
                    conv => cbv
                    exact hL_1 _ _ ⟨true, (.inl ⟨(by (conv => lhs; cbv) <;> (subst hO; rfl)), (by (conv => lhs; cbv) <;> (subst hO; rfl))⟩), h⟩
                  · conv => cbv
                    refine br_f hO hc3 ?_
                    conv => cbv
                    refine br_f hO hc3 ?_
                    conv => cbv
                    refine tob_h hO h (by subst hO; rfl) (fun s54 h => ?_)
                    conv => cbv
                    refine br_f hO hc3 ?_
                    conv => cbv
                    refine call_h hO [.shut, .shut] (d_p44 fu O.len hN h) ?_
                    intro os Q hos hQ
                    conv => cbv
                    refine view_full hO ?_
                    conv => cbv
                    refine ⟨(by (rw [hos]) <;> (subst hO; rfl)), ?_⟩
                    intro r bs hq
                    rw [hQ] at hq
                    clear hos hQ h
                    obtain ⟨y55, _, _, ⟨rfl, rfl⟩, h⟩ := hq
                    conv => cbv
                    refine ⟨agree_of hO (Nat.le_of_ble_eq_true rfl) rfl, ?_⟩
                    refine br_f hO hc3 ?_
                    conv => cbv
                    refine tob_h hO h (by subst hO; rfl) (fun s56 h => ?_)
                    conv => cbv
                    refine br_f hO hc3 ?_
                    conv => cbv
                    refine br_f hO hc3 ?_
                    conv => cbv
                    exact hL_1 _ _ ⟨(scmpStd .neq s56 s54), (.inr ⟨(by (conv => lhs; cbv) <;> (subst hO; rfl)), (by (conv => lhs; cbv) <;> (subst hO; rfl))⟩), h⟩
                · rintro tm m ⟨j53, hs, h⟩
                  unfold p46_1 at h
                  rcases hs with hs | hs
                  · obtain ⟨rfl, rfl⟩ := hs
                    conv => cbv
                    refine br_h hO h (by subst hO; rfl) (fun hc2 h => ?_) (fun hc2 h => ?_)
                    · conv => cbv
                      rw [hQ]
                      exact ⟨0, 0, 0, 0, 0, false, 0, 0, ⟨#[]⟩, nilE, nilE, 0, nilE, 5, _, ⟨(by subst hO; rfl), (by subst hO; rfl)⟩, h⟩
                    · conv => cbv
                      refine join_all hO ?_
                      conv => cbv
                      refine view_full hO ?_
                      conv => cbv
                      rw [hQ]
                      exact ⟨y1, y5, y6, y10, y14, j25, j30, j31, j32, nilE, nilE, y35, z46, 0, _, ⟨(by subst hO; rfl), (by subst hO; rfl)⟩, h⟩
                  · obtain ⟨rfl, rfl⟩ := hs
                    conv => cbv
                    refine br_h hO h (by subst hO; rfl) (fun hc2 h => ?_) (fun hc2 h => ?_)
                    · conv => cbv
                      rw [hQ]
                      exact ⟨0, 0, 0, 0, 0, false, 0, 0, ⟨#[]⟩, nilE, nilE, 0, nilE, 5, _, ⟨(by subst hO; rfl), (by subst hO; rfl)⟩, h⟩
                    · conv => cbv
                      refine join_all hO ?_
                      conv => cbv
                      refine view_full hO ?_
                      conv => cbv
                      rw [hQ]
                      exact ⟨y1, y5, y6, y10, y14, j25, j30, j31, j32, nilE, nilE, y35, z46, 0, _, ⟨(by subst hO; rfl), (by subst hO; rfl)⟩, h⟩
end Go.Proofs.Ythncmjlcmlmnmaa
