/- Functions without memory, and that the Go functions are followed by them. Printed by gen.py. Conditions: none. -/
import Derived.Test.YthncmjlcmlmnmaaCR9
import Derived.Test.YthncmjlcmlmnmaaCR14
import Derived.Test.YthncmjlcmlmnmaaCR15
import Derived.Test.YthncmjlcmlmnmaaCR17
import Derived.Test.YthncmjlcmlmnmaaCR19
namespace Go.Proofs.Ythncmjlcmlmnmaa
open Go V
set_option maxRecDepth 100000
set_option maxHeartbeats 4000000
def p77_1 {ρ : Type} (fail : ρ) (fu : Nat)  (K0 : Int → Int → Int → ByteArray → ByteArray → Int → Int → ByteArray → EL → EL → Int → Int → ByteArray → EL → EL → EL → EL → Int → Int → ρ) (rec1 : EL → Int → Int → EL → Int → ρ) (y1 : Int) (y5 : Int) (y9 : Int) (y13 : ByteArray) (y17 : ByteArray) (y21 : Int) (y22 : Int) (y23 : ByteArray) (y24 : EL) (y25 : EL) (j38 : Int) (j39 : Int) (j40 : ByteArray) (j41 : EL) (j42 : EL) (z50 : EL) (z51 : Int) (z52 : Int) (z53 : EL) (z54 : Int) (j55 : Bool) : ρ :=
  bif j55 then (p98 fail fu (fun y56 y57 y58 y59 => p75 fail fu (fun y60 y61 y62 y63 y64 y65 y66 y67 => gd (1 ≤ [[(CV.v (.string y56)), (CV.v (.int .i64 y60)), (CV.v (.int .i64 y61)), (CV.v (.string y62)), (CV.sl 3 y63 none), (CV.sl 5 y64 none)]].length) fail (gd ((z53.length + (List.take 1 [[(CV.v (.string y56)), (CV.v (.int .i64 y60)), (CV.v (.int .i64 y61)), (CV.v (.string y62)), (CV.sl 3 y63 none), (CV.sl 5 y64 none)]]).length) * 96 ≤ 35184372088832) fail (rec1 y65 y66 y67 (z53 ++ (List.take 1 [[(CV.v (.string y56)), (CV.v (.int .i64 y60)), (CV.v (.int .i64 y61)), (CV.v (.string y62)), (CV.sl 3 y63 none), (CV.sl 5 y64 none)]])) (binStd .add .i64 z54 1)))) y57 y58 y59) z50 z51 z52) else (K0 y1 y5 y9 y13 y17 y21 y22 y23 y24 y25 j38 j39 j40 j41 j42 z53 z50 z51 z52)
def p77_2 {ρ : Type} (fail : ρ) (fu : Nat)  (K0 : Int → Int → Int → ByteArray → ByteArray → Int → Int → ByteArray → EL → EL → Int → Int → ByteArray → EL → EL → EL → EL → Int → Int → ρ) (rec1 : EL → Int → Int → EL → Int → ρ) (y1 : Int) (y5 : Int) (y9 : Int) (y13 : ByteArray) (y17 : ByteArray) (y21 : Int) (y22 : Int) (y23 : ByteArray) (y24 : EL) (y25 : EL) (j38 : Int) (j39 : Int) (j40 : ByteArray) (j41 : EL) (j42 : EL) (y43 : Int) (z50 : EL) (z51 : Int) (z52 : Int) (z53 : EL) (z54 : Int) : ρ :=
  bif (cmpStd .lss z54 y43) then (p77_1 fail fu  K0 rec1 y1 y5 y9 y13 y17 y21 y22 y23 y24 y25 j38 j39 j40 j41 j42 z50 z51 z52 z53 z54 (cmpStd .eql z52 0)) else (p77_1 fail fu  K0 rec1 y1 y5 y9 y13 y17 y21 y22 y23 y24 y25 j38 j39 j40 j41 j42 z50 z51 z52 z53 z54 false)
def p77_2L {ρ : Type} (fail : ρ) (fu : Nat)  (K0 : Int → Int → Int → ByteArray → ByteArray → Int → Int → ByteArray → EL → EL → Int → Int → ByteArray → EL → EL → EL → EL → Int → Int → ρ)  (y1 : Int) (y5 : Int) (y9 : Int) (y13 : ByteArray) (y17 : ByteArray) (y21 : Int) (y22 : Int) (y23 : ByteArray) (y24 : EL) (y25 : EL) (j38 : Int) (j39 : Int) (j40 : ByteArray) (j41 : EL) (j42 : EL) (y43 : Int) : Nat → EL → Int → Int → EL → Int → ρ
  | 0, _, _, _, _, _ => fail
  | n + 1, z50, z51, z52, z53, z54 => p77_2 fail fu  K0 (p77_2L fail fu  K0  y1 y5 y9 y13 y17 y21 y22 y23 y24 y25 j38 j39 j40 j41 j42 y43 n) y1 y5 y9 y13 y17 y21 y22 y23 y24 y25 j38 j39 j40 j41 j42 y43 z50 z51 z52 z53 z54
def p77_3 {ρ : Type} (fail : ρ) (fu : Nat)  (K0 : Int → Int → Int → ByteArray → ByteArray → Int → Int → ByteArray → EL → EL → Int → Int → ByteArray → EL → EL → EL → EL → Int → Int → ρ)  (y1 : Int) (y5 : Int) (y9 : Int) (y13 : ByteArray) (y17 : ByteArray) (y21 : Int) (y22 : Int) (y23 : ByteArray) (y24 : EL) (y25 : EL) (j38 : Int) (j39 : Int) (j40 : ByteArray) (j41 : EL) (j42 : EL) (y43 : Int) (j47 : EL) (j48 : Int) (j49 : Int) : ρ :=
  p77_2L fail fu  K0 y1 y5 y9 y13 y17 y21 y22 y23 y24 y25 j38 j39 j40 j41 j42 y43 fu j47 j48 j49 nilE 0
def p77_4 {ρ : Type} (fail : ρ) (fu : Nat)  (K0 : Int → Int → Int → ByteArray → ByteArray → Int → Int → ByteArray → EL → EL → Int → Int → ByteArray → EL → EL → EL → EL → Int → Int → ρ)  (y1 : Int) (y5 : Int) (y9 : Int) (y13 : ByteArray) (y17 : ByteArray) (y21 : Int) (y22 : Int) (y23 : ByteArray) (y24 : EL) (y25 : EL) (j35 : EL) (j36 : Int) (j37 : Int) (j38 : Int) (j39 : Int) (j40 : ByteArray) (j41 : EL) (j42 : EL) : ρ :=
  p96 fail fu (fun y43 y44 y45 y46 => bif (cmpStd .gtr y43 5) then (p118 fail fu (fun y68 y69 y70 => p77_3 fail fu  K0 y1 y5 y9 y13 y17 y21 y22 y23 y24 y25 j38 j39 j40 j41 j42 y43 y68 y69 y70) y44 y45 y46 3) else (p77_3 fail fu  K0 y1 y5 y9 y13 y17 y21 y22 y23 y24 y25 j38 j39 j40 j41 j42 y43 y44 y45 y46)) j35 j36 j37
def p77_5 {ρ : Type} (fail : ρ) (fu : Nat)  (K0 : Int → Int → Int → ByteArray → ByteArray → Int → Int → ByteArray → EL → EL → Int → Int → ByteArray → EL → EL → EL → EL → Int → Int → ρ)  (y1 : Int) (y5 : Int) (y9 : Int) (y13 : ByteArray) (y17 : ByteArray) (y21 : Int) (y22 : Int) (y23 : ByteArray) (y24 : EL) (y25 : EL) (y31 : EL) (y32 : Int) (y33 : Int) (j34 : Bool) : ρ :=
  bif j34 then (p75 fail fu (fun y71 y72 y73 y74 y75 y76 y77 y78 => p77_4 fail fu  K0 y1 y5 y9 y13 y17 y21 y22 y23 y24 y25 y76 y77 y78 y71 y72 y73 y74 y75) y31 y32 y33) else (p77_4 fail fu  K0 y1 y5 y9 y13 y17 y21 y22 y23 y24 y25 y31 y32 y33 0 0 ⟨#[]⟩ nilE nilE)
def p77_6 {ρ : Type} (fail : ρ) (fu : Nat)  (K0 : Int → Int → Int → ByteArray → ByteArray → Int → Int → ByteArray → EL → EL → Int → Int → ByteArray → EL → EL → EL → EL → Int → Int → ρ)  (y1 : Int) (y5 : Int) (y9 : Int) (y13 : ByteArray) (y17 : ByteArray) (y21 : Int) (y22 : Int) (y23 : ByteArray) (y24 : EL) (y25 : EL) (y26 : EL) (y27 : Int) (y28 : Int) (j29 : Int) : ρ :=
  p117 fail fu (fun y30 y31 y32 y33 => bif (cmpStd .eql y33 0) then (p77_5 fail fu  K0 y1 y5 y9 y13 y17 y21 y22 y23 y24 y25 y31 y32 y33 (cmpStd .eql j29 1)) else (p77_5 fail fu  K0 y1 y5 y9 y13 y17 y21 y22 y23 y24 y25 y31 y32 y33 false)) y26 y27 y28 j29 j29
/-- (*ref6.Reader).Decl -/
def p77 {ρ : Type} (fail : ρ) (fu : Nat)  (K0 : Int → Int → Int → ByteArray → ByteArray → Int → Int → ByteArray → EL → EL → Int → Int → ByteArray → EL → EL → EL → EL → Int → Int → ρ) (x0 : EL) (x1 : Int) (x2 : Int) : ρ :=
  p117 fail fu (fun y1 y2 y3 y4 => p96 fail fu (fun y5 y6 y7 y8 => p96 fail fu (fun y9 y10 y11 y12 => p98 fail fu (fun y13 y14 y15 y16 => p98 fail fu (fun y17 y18 y19 y20 => p75 fail fu (fun y21 y22 y23 y24 y25 y26 y27 y28 => bif (cmpStd .eql y1 2) then (p77_6 fail fu  K0 y1 y5 y9 y13 y17 y21 y22 y23 y24 y25 y26 y27 y28 1) else (p77_6 fail fu  K0 y1 y5 y9 y13 y17 y21 y22 y23 y24 y25 y26 y27 y28 0)) y18 y19 y20) y14 y15 y16) y10 y11 y12) y6 y7 y8) y2 y3 y4) x0 x1 x2 1 5
theorem d_p77 (fu : Nat)  {K0 : Int → Int → Int → ByteArray → ByteArray → Int → Int → ByteArray → EL → EL → Int → Int → ByteArray → EL → EL → EL → EL → Int → Int → Prop} (L : EL → Nat) (hN : L = List.length) {x0 : EL} {x1 : Int} {x2 : Int} (h : p77 False fu K0 x0 x1 x2) : Den Try.prog G0 77 [.ptr [.c (.sl 1 x0 none), .c (.v (.int .i64 x1)), .c (.v (.int .i64 x2))]] (fun r bs => (∃ (y0 : Int) (y1 : Int) (y2 : Int) (y3 : ByteArray) (y4 : ByteArray) (y5 : Int) (y6 : Int) (y7 : ByteArray) (y8 : EL) (y9 : EL) (y10 : Int) (y11 : Int) (y12 : ByteArray) (y13 : EL) (y14 : EL) (y15 : EL) (y16 : EL) (y17 : Int) (y18 : Int), (r = .agg [.c (.v (.int .i64 y0)), .c (.v (.int .i64 y1)), .c (.v (.int .i64 y2)), .c (.v (.string y3)), .c (.v (.string y4)), .c (.v (.int .i64 y5)), .c (.v (.int .i64 y6)), .c (.v (.string y7)), .c (.sl 3 y8 none), .c (.sl 5 y9 none), .c (.v (.int .i64 y10)), .c (.v (.int .i64 y11)), .c (.v (.string y12)), .c (.sl 3 y13 none), .c (.sl 5 y14 none), .c (.sl 6 y15 none)] ∧ bs = [.ptr [.c (.sl 1 y16 none), .c (.v (.int .i64 y17)), .c (.v (.int .i64 y18))]]) ∧ K0 y0 y1 y2 y3 y4 y5 y6 y7 y8 y9 y10 y11 y12 y13 y14 y15 y16 y17 y18)) := by
  obtain ⟨O, hO⟩ : ∃ O, O = std 1 T G0 (Den Try.prog G0) := ⟨_, rfl⟩
  have hLO : L = O.len := by rw [hN, hO]; rfl
  subst hLO
  refine den_h hO tiA mixed tabOk (fn := Try.f77) (sh := true) (by kernel_rfl) rfl rfl rfl rfl ?_
  intro Q hQ
  unfold p77 at h
  conv => cbv
  refine call_h hO [.ref 3, .shut, .shut] (d_p117 fu O.len hN h) ?_
  intro os Q hos hQ
  conv => cbv
  refine ⟨(by (rw [hos]) <;> (subst hO; rfl)), ?_⟩
  intro r bs hq
  rw [hQ] at hq
  clear hos hQ h
  obtain ⟨y1, y2, y3, y4, _, _, ⟨rfl, rfl⟩, h⟩ := hq
  conv => cbv
  refine call_h hO [.ref 3] (d_p96 fu O.len hN h) ?_
  intro os Q hos hQ
  conv => cbv
  refine ⟨(by (rw [hos]) <;> (subst hO; rfl)), ?_⟩
  intro r bs hq
  rw [hQ] at hq
  clear hos hQ h
  obtain ⟨y5, y6, y7, y8, ⟨rfl, rfl⟩, h⟩ := hq
  conv => cbv
  refine call_h hO [.ref 3] (d_p96 fu O.len hN h) ?_
  intro os Q hos hQ
  conv => cbv
  refine ⟨(by (rw [hos]) <;> (subst hO; rfl)), ?_⟩
  intro r bs hq
  rw [hQ] at hq
  clear hos hQ h
  obtain ⟨y9, y10, y11, y12, ⟨rfl, rfl⟩, h⟩ := hq
  conv => cbv
  refine call_h hO [.ref 3] (d_p98 fu O.len hN h) ?_
  intro os Q hos hQ
  conv => cbv
  refine ⟨(by (rw [hos]) <;> (subst hO; rfl)), ?_⟩
  intro r bs hq
  rw [hQ] at hq
  clear hos hQ h
  obtain ⟨y13, y14, y15, y16, ⟨rfl, rfl⟩, h⟩ := hq
  conv => cbv
  refine call_h hO [.ref 3] (d_p98 fu O.len hN h) ?_
  intro os Q hos hQ
  conv => cbv
  refine ⟨(by (rw [hos]) <;> (subst hO; rfl)), ?_⟩
  intro r bs hq
  rw [hQ] at hq
  clear hos hQ h
  obtain ⟨y17, y18, y19, y20, ⟨rfl, rfl⟩, h⟩ := hq
  conv => cbv
  refine call_h hO [.ref 3] (d_p75 fu O.len hN h) ?_
  intro os Q hos hQ
  conv => cbv
  refine ⟨(by (rw [hos]) <;> (subst hO; rfl)), ?_⟩
  intro r bs hq
  rw [hQ] at hq
  clear hos hQ h
  obtain ⟨y21, y22, y23, y24, y25, y26, y27, y28, ⟨rfl, rfl⟩, h⟩ := hq
  conv => cbv
  refine br_join_h hO tiA h (by subst hO; rfl) [0, 2, 3, 4] [0, 3000, 4000] [] (fun tm m => ∃ (j29 : Int), ((tm = frame 0 76 [(0, .p 0 0 0), (2, .p 3000 1 0), (3, .p 4000 1 0), (4, .c (.v (.int .u64 j29)))] ∧ m = ⟨[(0, .blk 0 [.c (.sl 1 y26 none), .c (.v (.int .i64 y27)), .c (.v (.int .i64 y28))]), (3000, .blk 1 [.c (.v (.int .i64 0)), .c (.v (.int .i64 0)), .c (.v (.int .i64 0)), .c (.v (.string ⟨#[]⟩)), .c (.v (.string ⟨#[]⟩)), .c (.v (.int .i64 0)), .c (.v (.int .i64 0)), .c (.v (.string ⟨#[]⟩)), .c (.sl 3 [] (some [])), .c (.sl 5 [] (some [])), .c (.v (.int .i64 0)), .c (.v (.int .i64 0)), .c (.v (.string ⟨#[]⟩)), .c (.sl 3 [] (some [])), .c (.sl 5 [] (some [])), .c (.sl 6 [] (some []))]), (4000, .blk 1 [.c (.v (.int .i64 y1)), .c (.v (.int .i64 y5)), .c (.v (.int .i64 y9)), .c (.v (.string y13)), .c (.v (.string y17)), .c (.v (.int .i64 y21)), .c (.v (.int .i64 y22)), .c (.v (.string y23)), .c (.sl 3 y24 none), .c (.sl 5 y25 none), .c (.v (.int .i64 0)), .c (.v (.int .i64 0)), .c (.v (.string ⟨#[]⟩)), .c (.sl 3 [] (some [])), .c (.sl 5 [] (some [])), .c (.sl 6 [] (some []))])], 2⟩)) ∧ p77_6 False fu  K0 y1 y5 y9 y13 y17 y21 y22 y23 y24 y25 y26 y27 y28 j29) (fun hc6 h L hL_6 => ?_) (fun hc6 h L hL_6 => ?_) ?_
  · conv => cbv
    exact hL_6 _ _ ⟨1, ⟨(by (conv => lhs; cbv) <;> (subst hO; rfl)), (by (conv => lhs; cbv) <;> (subst hO; rfl))⟩, h⟩
  · conv => cbv
    exact hL_6 _ _ ⟨0, ⟨(by (conv => lhs; cbv) <;> (subst hO; rfl)), (by (conv => lhs; cbv) <;> (subst hO; rfl))⟩, h⟩
  · rintro tm m ⟨j29, hs, h⟩
    unfold p77_6 at h
    obtain ⟨rfl, rfl⟩ := hs
    conv => cbv
    refine call_h hO [.ref 3, .shut, .shut] (d_p117 fu O.len hN h) ?_
    intro os Q hos hQ
    conv => cbv
    refine ⟨(by (rw [hos]) <;> (subst hO; rfl)), ?_⟩
    intro r bs hq
    rw [hQ] at hq
    clear hos hQ h
    obtain ⟨y30, y31, y32, y33, _, _, ⟨rfl, rfl⟩, h⟩ := hq
    conv => cbv
    refine reg_join hO tiA [0, 2, 3, 41] [0, 3000, 4000] [] (fun tm m => ∃ (j34 : Bool), ((tm = frame 0 76 [(0, .p 0 0 0), (2, .p 3000 1 0), (3, .p 4000 1 0), (41, .c (.v (.bool j34)))] ∧ m = ⟨[(0, .blk 0 [.c (.sl 1 y31 none), .c (.v (.int .i64 y32)), .c (.v (.int .i64 y33))]), (3000, .blk 1 [.c (.v (.int .i64 0)), .c (.v (.int .i64 0)), .c (.v (.int .i64 0)), .c (.v (.string ⟨#[]⟩)), .c (.v (.string ⟨#[]⟩)), .c (.v (.int .i64 0)), .c (.v (.int .i64 0)), .c (.v (.string ⟨#[]⟩)), .c (.sl 3 [] (some [])), .c (.sl 5 [] (some [])), .c (.v (.int .i64 0)), .c (.v (.int .i64 0)), .c (.v (.string ⟨#[]⟩)), .c (.sl 3 [] (some [])), .c (.sl 5 [] (some [])), .c (.sl 6 [] (some []))]), (4000, .blk 1 [.c (.v (.int .i64 y1)), .c (.v (.int .i64 y5)), .c (.v (.int .i64 y9)), .c (.v (.string y13)), .c (.v (.string y17)), .c (.v (.int .i64 y21)), .c (.v (.int .i64 y22)), .c (.v (.string y23)), .c (.sl 3 y24 none), .c (.sl 5 y25 none), .c (.v (.int .i64 0)), .c (.v (.int .i64 0)), .c (.v (.string ⟨#[]⟩)), .c (.sl 3 [] (some [])), .c (.sl 5 [] (some [])), .c (.sl 6 [] (some []))])], 2⟩)) ∧ p77_5 False fu  K0 y1 y5 y9 y13 y17 y21 y22 y23 y24 y25 y31 y32 y33 j34) (fun L hL_5 => ?_) ?_
    · conv => cbv
      refine br_h hO h (by subst hO; rfl) (fun hc5 h => ?_) (fun hc5 h => ?_)
      · conv => cbv
        refine br_t hO hc5 ?_
        conv => cbv
        refine br_t hO hc5 ?_
        conv => cbv
        exact hL_5 _ _ ⟨(cmpStd .eql j29 1), ⟨(by (conv => lhs; cbv) <;> (subst hO; rfl)), (by (conv => lhs; cbv) <;> (subst hO; rfl))⟩, h⟩
      · conv => cbv
        refine br_f hO hc5 ?_
        conv => cbv
        refine br_f hO hc5 ?_
        conv => cbv
        exact hL_5 _ _ ⟨false, ⟨(by (conv => lhs; cbv) <;> (subst hO; rfl)), (by (conv => lhs; cbv) <;> (subst hO; rfl))⟩, h⟩
    · rintro tm m ⟨j34, hs, h⟩
      unfold p77_5 at h
      obtain ⟨rfl, rfl⟩ := hs
      conv => cbv
      refine br_join_h hO tiA h (by subst hO; rfl) [0, 2, 3] [0, 3000, 4000] [] (fun tm m => ∃ (j35 : EL) (j36 : Int) (j37 : Int) (j38 : Int) (j39 : Int) (j40 : ByteArray) (j41 : EL) (j42 : EL), ((tm = frame 0 76 [(0, .p 0 0 0), (2, .p 3000 1 0), (3, .p 4000 1 0)] ∧ m = ⟨[(0, .blk 0 [.c (.sl 1 j35 none), .c (.v (.int .i64 j36)), .c (.v (.int .i64 j37))]), (3000, .blk 1 [.c (.v (.int .i64 0)), .c (.v (.int .i64 0)), .c (.v (.int .i64 0)), .c (.v (.string ⟨#[]⟩)), .c (.v (.string ⟨#[]⟩)), .c (.v (.int .i64 0)), .c (.v (.int .i64 0)), .c (.v (.string ⟨#[]⟩)), .c (.sl 3 [] (some [])), .c (.sl 5 [] (some [])), .c (.v (.int .i64 0)), .c (.v (.int .i64 0)), .c (.v (.string ⟨#[]⟩)), .c (.sl 3 [] (some [])), .c (.sl 5 [] (some [])), .c (.sl 6 [] (some []))]), (4000, .blk 1 [.c (.v (.int .i64 y1)), .c (.v (.int .i64 y5)), .c (.v (.int .i64 y9)), .c (.v (.string y13)), .c (.v (.string y17)), .c (.v (.int .i64 y21)), .c (.v (.int .i64 y22)), .c (.v (.string y23)), .c (.sl 3 y24 none), .c (.sl 5 y25 none), .c (.v (.int .i64 j38)), .c (.v (.int .i64 j39)), .c (.v (.string j40)), .c (.sl 3 j41 none), .c (.sl 5 j42 none), .c (.sl 6 [] (some []))])], 2⟩) ∨ (j41 = [] ∧ j42 = [] ∧ tm = frame 0 76 [(0, .p 0 0 0), (2, .p 3000 1 0), (3, .p 4000 1 0)] ∧ m = ⟨[(0, .blk 0 [.c (.sl 1 j35 none), .c (.v (.int .i64 j36)), .c (.v (.int .i64 j37))]), (3000, .blk 1 [.c (.v (.int .i64 0)), .c (.v (.int .i64 0)), .c (.v (.int .i64 0)), .c (.v (.string ⟨#[]⟩)), .c (.v (.string ⟨#[]⟩)), .c (.v (.int .i64 0)), .c (.v (.int .i64 0)), .c (.v (.string ⟨#[]⟩)), .c (.sl 3 [] (some [])), .c (.sl 5 [] (some [])), .c (.v (.int .i64 0)), .c (.v (.int .i64 0)), .c (.v (.string ⟨#[]⟩)), .c (.sl 3 [] (some [])), .c (.sl 5 [] (some [])), .c (.sl 6 [] (some []))]), (4000, .blk 1 [.c (.v (.int .i64 y1)), .c (.v (.int .i64 y5)), .c (.v (.int .i64 y9)), .c (.v (.string y13)), .c (.v (.string y17)), .c (.v (.int .i64 y21)), .c (.v (.int .i64 y22)), .c (.v (.string y23)), .c (.sl 3 y24 none), .c (.sl 5 y25 none), .c (.v (.int .i64 j38)), .c (.v (.int .i64 j39)), .c (.v (.string j40)), .c (.sl 3 [] (some [])), .c (.sl 5 [] (some [])), .c (.sl 6 [] (some []))])], 2⟩)) ∧ p77_4 False fu  K0 y1 y5 y9 y13 y17 y21 y22 y23 y24 y25 j35 j36 j37 j38 j39 j40 j41 j42) (fun hc4 h L hL_4 => ?_) (fun hc4 h L hL_4 => ?_) ?_
      · conv => cbv
        refine call_h hO [.ref 3] (d_p75 fu O.len hN h) ?_
        intro os Q hos hQ
        conv => cbv
        refine ⟨(by (rw [hos]) <;> (subst hO; rfl)), ?_⟩
        intro r bs hq
        rw [hQ] at hq
        clear hos hQ h
        obtain ⟨y71, y72, y73, y74, y75, y76, y77, y78, ⟨rfl, rfl⟩, h⟩ := hq
        conv => cbv
        exact hL_4 _ _ ⟨y76, y77, y78, y71, y72, y73, y74, y75, (.inl ⟨(by (conv => lhs; cbv) <;> (subst hO; rfl)), (by (conv => lhs; cbv) <;> (subst hO; rfl))⟩), h⟩
      · conv => cbv
        exact hL_4 _ _ ⟨y31, y32, y33, 0, 0, ⟨#[]⟩, nilE, nilE, (.inr ⟨rfl, rfl, (by (conv => lhs; cbv) <;> (subst hO; rfl)), (by (conv => lhs; cbv) <;> (subst hO; rfl))⟩), h⟩
      · rintro tm m ⟨j35, j36, j37, j38, j39, j40, j41, j42, hs, h⟩
        unfold p77_4 at h
        rcases hs with hs | hs
        · obtain ⟨rfl, rfl⟩ := hs
          conv => cbv
          refine call_h hO [.ref 3] (d_p96 fu O.len hN h) ?_
          intro os Q hos hQ
          conv => cbv
          refine ⟨(by (rw [hos]) <;> (subst hO; rfl)), ?_⟩
          intro r bs hq
          rw [hQ] at hq
          clear hos hQ h
          obtain ⟨y43, y44, y45, y46, ⟨rfl, rfl⟩, h⟩ := hq
          conv => cbv
          refine br_join_h hO tiA h (by subst hO; rfl) [0, 2, 3, 5] [0, 3000, 4000] [] (fun tm m => ∃ (j47 : EL) (j48 : Int) (j49 : Int), ((tm = frame 0 76 [(0, .p 0 0 0), (2, .p 3000 1 0), (3, .p 4000 1 0), (5, .c (.v (.int .i64 y43)))] ∧ m = ⟨[(0, .blk 0 [.c (.sl 1 j47 none), .c (.v (.int .i64 j48)), .c (.v (.int .i64 j49))]), (3000, .blk 1 [.c (.v (.int .i64 0)), .c (.v (.int .i64 0)), .c (.v (.int .i64 0)), .c (.v (.string ⟨#[]⟩)), .c (.v (.string ⟨#[]⟩)), .c (.v (.int .i64 0)), .c (.v (.int .i64 0)), .c (.v (.string ⟨#[]⟩)), .c (.sl 3 [] (some [])), .c (.sl 5 [] (some [])), .c (.v (.int .i64 0)), .c (.v (.int .i64 0)), .c (.v (.string ⟨#[]⟩)), .c (.sl 3 [] (some [])), .c (.sl 5 [] (some [])), .c (.sl 6 [] (some []))]), (4000, .blk 1 [.c (.v (.int .i64 y1)), .c (.v (.int .i64 y5)), .c (.v (.int .i64 y9)), .c (.v (.string y13)), .c (.v (.string y17)), .c (.v (.int .i64 y21)), .c (.v (.int .i64 y22)), .c (.v (.string y23)), .c (.sl 3 y24 none), .c (.sl 5 y25 none), .c (.v (.int .i64 j38)), .c (.v (.int .i64 j39)), .c (.v (.string j40)), .c (.sl 3 j41 none), .c (.sl 5 j42 none), .c (.sl 6 [] (some []))])], 2⟩)) ∧ p77_3 False fu  K0 y1 y5 y9 y13 y17 y21 y22 y23 y24 y25 j38 j39 j40 j41 j42 y43 j47 j48 j49) (fun hc3 h L hL_3 => ?_) (fun hc3 h L hL_3 => ?_) ?_
          · conv => cbv
            refine call_h hO [.ref 3, .shut] (d_p118 fu O.len hN h) ?_
            intro os Q hos hQ
            conv => cbv
            refine ⟨(by (rw [hos]) <;> (subst hO; rfl)), ?_⟩
            intro r bs hq
            rw [hQ] at hq
            clear hos hQ h
            obtain ⟨y68, y69, y70, _, ⟨rfl, rfl⟩, h⟩ := hq
            conv => cbv
            exact hL_3 _ _ ⟨y68, y69, y70, ⟨(by (conv => lhs; cbv) <;> (subst hO; rfl)), (by (conv => lhs; cbv) <;> (subst hO; rfl))⟩, h⟩
          · conv => cbv
            exact hL_3 _ _ ⟨y44, y45, y46, ⟨(by (conv => lhs; cbv) <;> (subst hO; rfl)), (by (conv => lhs; cbv) <;> (subst hO; rfl))⟩, h⟩
          · rintro tm m ⟨j47, j48, j49, hs, h⟩
            unfold p77_3 at h
            obtain ⟨rfl, rfl⟩ := hs
            conv => cbv
            refine loop_of hO tiA [0, 2, 3, 5, 6] [0, 3000, 4000, 74000] [] (fun (n : Nat) tm m => ∃ (z50 : EL) (z51 : Int) (z52 : Int) (z53 : EL) (z54 : Int), ((z53 = [] ∧ tm = frame 0 76 [(0, .p 0 0 0), (2, .p 3000 1 0), (3, .p 4000 1 0), (5, .c (.v (.int .i64 y43))), (6, .c (.v (.int .i64 z54)))] ∧ m = ⟨[(0, .blk 0 [.c (.sl 1 z50 none), .c (.v (.int .i64 z51)), .c (.v (.int .i64 z52))]), (3000, .blk 1 [.c (.v (.int .i64 0)), .c (.v (.int .i64 0)), .c (.v (.int .i64 0)), .c (.v (.string ⟨#[]⟩)), .c (.v (.string ⟨#[]⟩)), .c (.v (.int .i64 0)), .c (.v (.int .i64 0)), .c (.v (.string ⟨#[]⟩)), .c (.sl 3 [] (some [])), .c (.sl 5 [] (some [])), .c (.v (.int .i64 0)), .c (.v (.int .i64 0)), .c (.v (.string ⟨#[]⟩)), .c (.sl 3 [] (some [])), .c (.sl 5 [] (some [])), .c (.sl 6 [] (some []))]), (4000, .blk 1 [.c (.v (.int .i64 y1)), .c (.v (.int .i64 y5)), .c (.v (.int .i64 y9)), .c (.v (.string y13)), .c (.v (.string y17)), .c (.v (.int .i64 y21)), .c (.v (.int .i64 y22)), .c (.v (.string y23)), .c (.sl 3 y24 none), .c (.sl 5 y25 none), .c (.v (.int .i64 j38)), .c (.v (.int .i64 j39)), .c (.v (.string j40)), .c (.sl 3 j41 none), .c (.sl 5 j42 none), .c (.sl 6 [] (some []))])], 2⟩) ∨ (tm = frame 0 76 [(0, .p 0 0 0), (2, .p 3000 1 0), (3, .p 4000 1 0), (5, .c (.v (.int .i64 y43))), (6, .c (.v (.int .i64 z54)))] ∧ m = ⟨[(0, .blk 0 [.c (.sl 1 z50 none), .c (.v (.int .i64 z51)), .c (.v (.int .i64 z52))]), (3000, .blk 1 [.c (.v (.int .i64 0)), .c (.v (.int .i64 0)), .c (.v (.int .i64 0)), .c (.v (.string ⟨#[]⟩)), .c (.v (.string ⟨#[]⟩)), .c (.v (.int .i64 0)), .c (.v (.int .i64 0)), .c (.v (.string ⟨#[]⟩)), .c (.sl 3 [] (some [])), .c (.sl 5 [] (some [])), .c (.v (.int .i64 0)), .c (.v (.int .i64 0)), .c (.v (.string ⟨#[]⟩)), .c (.sl 3 [] (some [])), .c (.sl 5 [] (some [])), .c (.sl 6 [] (some []))]), (4000, .blk 1 [.c (.v (.int .i64 y1)), .c (.v (.int .i64 y5)), .c (.v (.int .i64 y9)), .c (.v (.string y13)), .c (.v (.string y17)), .c (.v (.int .i64 y21)), .c (.v (.int .i64 y22)), .c (.v (.string y23)), .c (.sl 3 y24 none), .c (.sl 5 y25 none), .c (.v (.int .i64 j38)), .c (.v (.int .i64 j39)), .c (.v (.string j40)), .c (.sl 3 j41 none), .c (.sl 5 j42 none), .t 74000 1 (O.len z53)]), (74000, .arr 1 6 z53 none false)], 2⟩)) ∧ p77_2L False fu  K0 y1 y5 y9 y13 y17 y21 y22 y23 y24 y25 j38 j39 j40 j41 j42 y43 n z50 z51 z52 z53 z54) (fun n => n) fu ⟨j47, j48, j49, nilE, 0, (.inl ⟨rfl, (by (conv => lhs; cbv) <;> (subst hO; rfl)), (by (conv => lhs; cbv) <;> (subst hO; rfl))⟩), h⟩ ?_
            rintro n1 tm m L ⟨z50, z51, z52, z53, z54, hs, h⟩ hLn1
            cases n1 with
            | zero => rw [p77_2L] at h; exact h.elim
            | succ n1 =>
              rw [p77_2L] at h
              unfold p77_2 at h
              rcases hs with hs | hs
              · obtain ⟨rfl, rfl, rfl⟩ := hs
                conv => cbv
                refine reg_join hO tiA [0, 2, 3, 5, 6, 60] [0, 3000, 4000] [] (fun tm m => ∃ (j55 : Bool), ((tm = frame 0 76 [(0, .p 0 0 0), (2, .p 3000 1 0), (3, .p 4000 1 0), (5, .c (.v (.int .i64 y43))), (6, .c (.v (.int .i64 z54))), (60, .c (.v (.bool j55)))] ∧ m = ⟨[(0, .blk 0 [.c (.sl 1 z50 none), .c (.v (.int .i64 z51)), .c (.v (.int .i64 z52))]), (3000, .blk 1 [.c (.v (.int .i64 0)), .c (.v (.int .i64 0)), .c (.v (.int .i64 0)), .c (.v (.string ⟨#[]⟩)), .c (.v (.string ⟨#[]⟩)), .c (.v (.int .i64 0)), .c (.v (.int .i64 0)), .c (.v (.string ⟨#[]⟩)), .c (.sl 3 [] (some [])), .c (.sl 5 [] (some [])), .c (.v (.int .i64 0)), .c (.v (.int .i64 0)), .c (.v (.string ⟨#[]⟩)), .c (.sl 3 [] (some [])), .c (.sl 5 [] (some [])), .c (.sl 6 [] (some []))]), (4000, .blk 1 [.c (.v (.int .i64 y1)), .c (.v (.int .i64 y5)), .c (.v (.int .i64 y9)), .c (.v (.string y13)), .c (.v (.string y17)), .c (.v (.int .i64 y21)), .c (.v (.int .i64 y22)), .c (.v (.string y23)), .c (.sl 3 y24 none), .c (.sl 5 y25 none), .c (.v (.int .i64 j38)), .c (.v (.int .i64 j39)), .c (.v (.string j40)), .c (.sl 3 j41 none), .c (.sl 5 j42 none), .c (.sl 6 [] (some []))])], 2⟩)) ∧ p77_1 False fu  K0 (p77_2L False fu  K0  y1 y5 y9 y13 y17 y21 y22 y23 y24 y25 j38 j39 j40 j41 j42 y43 n1) y1 y5 y9 y13 y17 y21 y22 y23 y24 y25 j38 j39 j40 j41 j42 z50 z51 z52 nilE z54 j55) (fun L hL_1 => ?_) ?_
                · conv => cbv
                  refine br_h hO h (by subst hO; rfl) (fun hc2 h => ?_) (fun hc2 h => ?_)
                  · conv => cbv
                    refine br_t hO hc2 ?_
                    conv => cbv
                    refine br_t hO hc2 ?_
                    conv => cbv
                    refine br_t hO hc2 ?_
                    conv => cbv
                    refine br_t hO hc2 ?_
                    conv => cbv
                    refine br_t hO hc2 ?_
                    conv => cbv
                    exact hL_1 _ _ ⟨(cmpStd .eql z52 0), ⟨(by (conv => lhs; cbv) <;> (subst hO; rfl)), (by (conv => lhs; cbv) <;> (subst hO; rfl))⟩, h⟩
                  · conv => cbv
                    refine br_f hO hc2 ?_
                    conv => cbv
                    refine br_f hO hc2 ?_
                    conv => cbv
                    refine br_f hO hc2 ?_
                    conv => cbv
                    refine br_f hO hc2 ?_
                    conv => cbv
                    refine br_f hO hc2 ?_
                    conv => cbv
                    exact hL_1 _ _ ⟨false, ⟨(by (conv => lhs; cbv) <;> (subst hO; rfl)), (by (conv => lhs; cbv) <;> (subst hO; rfl))⟩, h⟩
                · rintro tm m ⟨j55, hs, h⟩
                  unfold p77_1 at h
                  obtain ⟨rfl, rfl⟩ := hs
                  conv => cbv
                  refine br_h hO h (by subst hO; rfl) (fun hc1 h => ?_) (fun hc1 h => ?_)
                  · conv => cbv
                    refine join_all hO ?_
                    conv => cbv
                    refine call_h hO [.ref 3] (d_p98 fu O.len hN h) ?_
                    intro os Q hos hQ
                    conv => cbv
                    refine ⟨(by (rw [hos]) <;> (subst hO; rfl)), ?_⟩
                    intro r bs hq
                    rw [hQ] at hq
                    clear hos hQ h
                    obtain ⟨y56, y57, y58, y59, ⟨rfl, rfl⟩, h⟩ := hq
                    conv => cbv
                    refine call_h hO [.ref 3] (d_p75 fu O.len hN h) ?_
                    intro os Q hos hQ
                    conv => cbv
                    refine ⟨(by (rw [hos]) <;> (subst hO; rfl)), ?_⟩
                    intro r bs hq
                    rw [hQ] at hq
                    clear hos hQ h
                    obtain ⟨y60, y61, y62, y63, y64, y65, y66, y67, ⟨rfl, rfl⟩, h⟩ := hq
                    conv => cbv
                    refine view_h hO h (fun g => (by subst hO; exact g)) (fun h => ?_)
                    conv => cbv
                    refine and_h h (fun g => (by subst hO; exact g)) (fun h => ?_)
                    refine emp_no hO (by subst hO; exact List.cons_ne_nil _ _) ?_
                    conv => cbv
                    exact hLn1 n1 _ _ (Nat.lt_succ_self n1) ⟨y65, y66, y67, (nilE ++ (List.take 1 [[(CV.v (.string y56)), (CV.v (.int .i64 y60)), (CV.v (.int .i64 y61)), (CV.v (.string y62)), (CV.sl 3 y63 none), (CV.sl 5 y64 none)]])), binStd .add .i64 z54 1, (.inr ⟨(by (conv => lhs; cbv) <;> (subst hO; rfl)), (by (conv => lhs; cbv) <;> (subst hO; rfl))⟩), h⟩
                  · conv => cbv
                    rw [hQ]
                    exact ⟨y1, y5, y9, y13, y17, y21, y22, y23, y24, y25, j38, j39, j40, j41, j42, nilE, z50, z51, z52, ⟨(by subst hO; rfl), (by subst hO; rfl)⟩, h⟩
              · obtain ⟨rfl, rfl⟩ := hs
                conv => cbv
                refine reg_join hO tiA [0, 2, 3, 5, 6, 60] [0, 3000, 4000, 74000] [] (fun tm m => ∃ (j55 : Bool), ((tm = frame 0 76 [(0, .p 0 0 0), (2, .p 3000 1 0), (3, .p 4000 1 0), (5, .c (.v (.int .i64 y43))), (6, .c (.v (.int .i64 z54))), (60, .c (.v (.bool j55)))] ∧ m = ⟨[(0, .blk 0 [.c (.sl 1 z50 none), .c (.v (.int .i64 z51)), .c (.v (.int .i64 z52))]), (3000, .blk 1 [.c (.v (.int .i64 0)), .c (.v (.int .i64 0)), .c (.v (.int .i64 0)), .c (.v (.string ⟨#[]⟩)), .c (.v (.string ⟨#[]⟩)), .c (.v (.int .i64 0)), .c (.v (.int .i64 0)), .c (.v (.string ⟨#[]⟩)), .c (.sl 3 [] (some [])), .c (.sl 5 [] (some [])), .c (.v (.int .i64 0)), .c (.v (.int .i64 0)), .c (.v (.string ⟨#[]⟩)), .c (.sl 3 [] (some [])), .c (.sl 5 [] (some [])), .c (.sl 6 [] (some []))]), (4000, .blk 1 [.c (.v (.int .i64 y1)), .c (.v (.int .i64 y5)), .c (.v (.int .i64 y9)), .c (.v (.string y13)), .c (.v (.string y17)), .c (.v (.int .i64 y21)), .c (.v (.int .i64 y22)), .c (.v (.string y23)), .c (.sl 3 y24 none), .c (.sl 5 y25 none), .c (.v (.int .i64 j38)), .c (.v (.int .i64 j39)), .c (.v (.string j40)), .c (.sl 3 j41 none), .c (.sl 5 j42 none), .t 74000 1 (O.len z53)]), (74000, .arr 1 6 z53 none false)], 2⟩)) ∧ p77_1 False fu  K0 (p77_2L False fu  K0  y1 y5 y9 y13 y17 y21 y22 y23 y24 y25 j38 j39 j40 j41 j42 y43 n1) y1 y5 y9 y13 y17 y21 y22 y23 y24 y25 j38 j39 j40 j41 j42 z50 z51 z52 z53 z54 j55) (fun L hL_1 => ?_) ?_
                · conv => cbv
                  refine br_h hO h (by subst hO; rfl) (fun hc2 h => ?_) (fun hc2 h => ?_)
                  · conv => cbv
                    refine br_t hO hc2 ?_
                    conv => cbv
                    refine br_t hO hc2 ?_
                    conv => cbv
                    refine br_t hO hc2 ?_
                    conv => cbv
                    refine br_t hO hc2 ?_
                    conv => cbv
                    refine br_t hO hc2 ?_
                    conv => cbv
                    exact hL_1 _ _ ⟨(cmpStd .eql z52 0), ⟨(by (conv => lhs; cbv) <;> (subst hO; rfl)), (by (conv => lhs; cbv) <;> (subst hO; rfl))⟩, h⟩
                  · conv => cbv
                    refine br_f hO hc2 ?_
                    conv => cbv
                    refine br_f hO hc2 ?_
                    conv => cbv
                    refine br_f hO hc2 ?_
                    conv => cbv
                    refine br_f hO hc2 ?_
                    conv => cbv
                    refine br_f hO hc2 ?_
                    conv => cbv
                    exact hL_1 _ _ ⟨false, ⟨(by (conv => lhs; cbv) <;> (subst hO; rfl)), (by (conv => lhs; cbv) <;> (subst hO; rfl))⟩, h⟩
                · rintro tm m ⟨j55, hs, h⟩
                  unfold p77_1 at h
                  obtain ⟨rfl, rfl⟩ := hs
                  conv => cbv
                  refine br_h hO h (by subst hO; rfl) (fun hc1 h => ?_) (fun hc1 h => ?_)
                  · conv => cbv
                    refine join_all hO ?_
                    conv => cbv
                    refine call_h hO [.ref 3] (d_p98 fu O.len hN h) ?_
                    intro os Q hos hQ
                    conv => cbv
                    refine ⟨(by (rw [hos]) <;> (subst hO; rfl)), ?_⟩
                    intro r bs hq
                    rw [hQ] at hq
                    clear hos hQ h
                    obtain ⟨y56, y57, y58, y59, ⟨rfl, rfl⟩, h⟩ := hq
                    conv => cbv
                    refine call_h hO [.ref 3] (d_p75 fu O.len hN h) ?_
                    intro os Q hos hQ
                    conv => cbv
                    refine ⟨(by (rw [hos]) <;> (subst hO; rfl)), ?_⟩
                    intro r bs hq
                    rw [hQ] at hq
                    clear hos hQ h
                    obtain ⟨y60, y61, y62, y63, y64, y65, y66, y67, ⟨rfl, rfl⟩, h⟩ := hq
                    conv => cbv
                    refine view_h hO h (fun g => (by subst hO; exact g)) (fun h => ?_)
                    conv => cbv
                    refine ⟨(by subst hO; rfl), ?_⟩
                    refine and_h h (fun g => (by subst hO; exact g)) (fun h => ?_)
                    exact hLn1 n1 _ _ (Nat.lt_succ_self n1) ⟨y65, y66, y67, (z53 ++ (List.take 1 [[(CV.v (.string y56)), (CV.v (.int .i64 y60)), (CV.v (.int .i64 y61)), (CV.v (.string y62)), (CV.sl 3 y63 none), (CV.sl 5 y64 none)]])), binStd .add .i64 z54 1, (.inr ⟨(by (conv => lhs; cbv) <;> (subst hO; rfl)), (by (conv => lhs; cbv) <;> (subst hO; rfl))⟩), h⟩
                  · conv => cbv
                    refine view_full hO ?_
                    conv => cbv
                    rw [hQ]
                    exact ⟨y1, y5, y9, y13, y17, y21, y22, y23, y24, y25, j38, j39, j40, j41, j42, z53, z50, z51, z52, ⟨(by subst hO; rfl), (by subst hO; rfl)⟩, h⟩
        · obtain ⟨rfl, rfl, rfl, rfl⟩ := hs
          conv => cbv
          refine call_h hO [.ref 3] (d_p96 fu O.len hN h) ?_
          intro os Q hos hQ
          conv => cbv
          refine ⟨(by (rw [hos]) <;> (subst hO; rfl)), ?_⟩
          intro r bs hq
          rw [hQ] at hq
          clear hos hQ h
          obtain ⟨y43, y44, y45, y46, ⟨rfl, rfl⟩, h⟩ := hq
          conv => cbv
          refine br_join_h hO tiA h (by subst hO; rfl) [0, 2, 3, 5] [0, 3000, 4000] [] (fun tm m => ∃ (j47 : EL) (j48 : Int) (j49 : Int), ((tm = frame 0 76 [(0, .p 0 0 0), (2, .p 3000 1 0), (3, .p 4000 1 0), (5, .c (.v (.int .i64 y43)))] ∧ m = ⟨[(0, .blk 0 [.c (.sl 1 j47 none), .c (.v (.int .i64 j48)), .c (.v (.int .i64 j49))]), (3000, .blk 1 [.c (.v (.int .i64 0)), .c (.v (.int .i64 0)), .c (.v (.int .i64 0)), .c (.v (.string ⟨#[]⟩)), .c (.v (.string ⟨#[]⟩)), .c (.v (.int .i64 0)), .c (.v (.int .i64 0)), .c (.v (.string ⟨#[]⟩)), .c (.sl 3 [] (some [])), .c (.sl 5 [] (some [])), .c (.v (.int .i64 0)), .c (.v (.int .i64 0)), .c (.v (.string ⟨#[]⟩)), .c (.sl 3 [] (some [])), .c (.sl 5 [] (some [])), .c (.sl 6 [] (some []))]), (4000, .blk 1 [.c (.v (.int .i64 y1)), .c (.v (.int .i64 y5)), .c (.v (.int .i64 y9)), .c (.v (.string y13)), .c (.v (.string y17)), .c (.v (.int .i64 y21)), .c (.v (.int .i64 y22)), .c (.v (.string y23)), .c (.sl 3 y24 none), .c (.sl 5 y25 none), .c (.v (.int .i64 j38)), .c (.v (.int .i64 j39)), .c (.v (.string j40)), .c (.sl 3 [] (some [])), .c (.sl 5 [] (some [])), .c (.sl 6 [] (some []))])], 2⟩)) ∧ p77_3 False fu  K0 y1 y5 y9 y13 y17 y21 y22 y23 y24 y25 j38 j39 j40 nilE nilE y43 j47 j48 j49) (fun hc3 h L hL_3 => ?_) (fun hc3 h L hL_3 => ?_) ?_
          · conv => cbv
            refine call_h hO [.ref 3, .shut] (d_p118 fu O.len hN h) ?_
            intro os Q hos hQ
            conv => cbv
            refine ⟨(by (rw [hos]) <;> (subst hO; rfl)), ?_⟩
            intro r bs hq
            rw [hQ] at hq
            clear hos hQ h
            obtain ⟨y68, y69, y70, _, ⟨rfl, rfl⟩, h⟩ := hq
            conv => cbv
            exact hL_3 _ _ ⟨y68, y69, y70, ⟨(by (conv => lhs; cbv) <;> (subst hO; rfl)), (by (conv => lhs; cbv) <;> (subst hO; rfl))⟩, h⟩
          · conv => cbv
            exact hL_3 _ _ ⟨y44, y45, y46, ⟨(by (conv => lhs; cbv) <;> (subst hO; rfl)), (by (conv => lhs; cbv) <;> (subst hO; rfl))⟩, h⟩
          · rintro tm m ⟨j47, j48, j49, hs, h⟩
            unfold p77_3 at h
            obtain ⟨rfl, rfl⟩ := hs
            conv => cbv
            refine loop_of hO tiA [0, 2, 3, 5, 6] [0, 3000, 4000, 74000] [] (fun (n : Nat) tm m => ∃ (z50 : EL) (z51 : Int) (z52 : Int) (z53 : EL) (z54 : Int), ((z53 = [] ∧ tm = frame 0 76 [(0, .p 0 0 0), (2, .p 3000 1 0), (3, .p 4000 1 0), (5, .c (.v (.int .i64 y43))), (6, .c (.v (.int .i64 z54)))] ∧ m = ⟨[(0, .blk 0 [.c (.sl 1 z50 none), .c (.v (.int .i64 z51)), .c (.v (.int .i64 z52))]), (3000, .blk 1 [.c (.v (.int .i64 0)), .c (.v (.int .i64 0)), .c (.v (.int .i64 0)), .c (.v (.string ⟨#[]⟩)), .c (.v (.string ⟨#[]⟩)), .c (.v (.int .i64 0)), .c (.v (.int .i64 0)), .c (.v (.string ⟨#[]⟩)), .c (.sl 3 [] (some [])), .c (.sl 5 [] (some [])), .c (.v (.int .i64 0)), .c (.v (.int .i64 0)), .c (.v (.string ⟨#[]⟩)), .c (.sl 3 [] (some [])), .c (.sl 5 [] (some [])), .c (.sl 6 [] (some []))]), (4000, .blk 1 [.c (.v (.int .i64 y1)), .c (.v (.int .i64 y5)), .c (.v (.int .i64 y9)), .c (.v (.string y13)), .c (.v (.string y17)), .c (.v (.int .i64 y21)), .c (.v (.int .i64 y22)), .c (.v (.string y23)), .c (.sl 3 y24 none), .c (.sl 5 y25 none), .c (.v (.int .i64 j38)), .c (.v (.int .i64 j39)), .c (.v (.string j40)), .c (.sl 3 [] (some [])), .c (.sl 5 [] (some [])), .c (.sl 6 [] (some []))])], 2⟩) ∨ (tm = frame 0 76 [(0, .p 0 0 0), (2, .p 3000 1 0), (3, .p 4000 1 0), (5, .c (.v (.int .i64 y43))), (6, .c (.v (.int .i64 z54)))] ∧ m = ⟨[(0, .blk 0 [.c (.sl 1 z50 none), .c (.v (.int .i64 z51)), .c (.v (.int .i64 z52))]), (3000, .blk 1 [.c (.v (.int .i64 0)), .c (.v (.int .i64 0)), .c (.v (.int .i64 0)), .c (.v (.string ⟨#[]⟩)), .c (.v (.string ⟨#[]⟩)), .c (.v (.int .i64 0)), .c (.v (.int .i64 0)), .c (.v (.string ⟨#[]⟩)), .c (.sl 3 [] (some [])), .c (.sl 5 [] (some [])), .c (.v (.int .i64 0)), .c (.v (.int .i64 0)), .c (.v (.string ⟨#[]⟩)), .c (.sl 3 [] (some [])), .c (.sl 5 [] (some [])), .c (.sl 6 [] (some []))]), (4000, .blk 1 [.c (.v (.int .i64 y1)), .c (.v (.int .i64 y5)), .c (.v (.int .i64 y9)), .c (.v (.string y13)), .c (.v (.string y17)), .c (.v (.int .i64 y21)), .c (.v (.int .i64 y22)), .c (.v (.string y23)), .c (.sl 3 y24 none), .c (.sl 5 y25 none), .c (.v (.int .i64 j38)), .c (.v (.int .i64 j39)), .c (.v (.string j40)), .c (.sl 3 [] (some [])), .c (.sl 5 [] (some [])), .t 74000 1 (O.len z53)]), (74000, .arr 1 6 z53 none false)], 2⟩)) ∧ p77_2L False fu  K0 y1 y5 y9 y13 y17 y21 y22 y23 y24 y25 j38 j39 j40 nilE nilE y43 n z50 z51 z52 z53 z54) (fun n => n) fu ⟨j47, j48, j49, nilE, 0, (.inl ⟨rfl, (by (conv => lhs; cbv) <;> (subst hO; rfl)), (by (conv => lhs; cbv) <;> (subst hO; rfl))⟩), h⟩ ?_
            rintro n1 tm m L ⟨z50, z51, z52, z53, z54, hs, h⟩ hLn1
            cases n1 with
            | zero => rw [p77_2L] at h; exact h.elim
            | succ n1 =>
              rw [p77_2L] at h
              unfold p77_2 at h
              rcases hs with hs | hs
              · obtain ⟨rfl, rfl, rfl⟩ := hs
                conv => cbv
                refine reg_join hO tiA [0, 2, 3, 5, 6, 60] [0, 3000, 4000] [] (fun tm m => ∃ (j55 : Bool), ((tm = frame 0 76 [(0, .p 0 0 0), (2, .p 3000 1 0), (3, .p 4000 1 0), (5, .c (.v (.int .i64 y43))), (6, .c (.v (.int .i64 z54))), (60, .c (.v (.bool j55)))] ∧ m = ⟨[(0, .blk 0 [.c (.sl 1 z50 none), .c (.v (.int .i64 z51)), .c (.v (.int .i64 z52))]), (3000, .blk 1 [.c (.v (.int .i64 0)), .c (.v (.int .i64 0)), .c (.v (.int .i64 0)), .c (.v (.string ⟨#[]⟩)), .c (.v (.string ⟨#[]⟩)), .c (.v (.int .i64 0)), .c (.v (.int .i64 0)), .c (.v (.string ⟨#[]⟩)), .c (.sl 3 [] (some [])), .c (.sl 5 [] (some [])), .c (.v (.int .i64 0)), .c (.v (.int .i64 0)), .c (.v (.string ⟨#[]⟩)), .c (.sl 3 [] (some [])), .c (.sl 5 [] (some [])), .c (.sl 6 [] (some []))]), (4000, .blk 1 [.c (.v (.int .i64 y1)), .c (.v (.int .i64 y5)), .c (.v (.int .i64 y9)), .c (.v (.string y13)), .c (.v (.string y17)), .c (.v (.int .i64 y21)), .c (.v (.int .i64 y22)), .c (.v (.string y23)), .c (.sl 3 y24 none), .c (.sl 5 y25 none), .c (.v (.int .i64 j38)), .c (.v (.int .i64 j39)), .c (.v (.string j40)), .c (.sl 3 [] (some [])), .c (.sl 5 [] (some [])), .c (.sl 6 [] (some []))])], 2⟩)) ∧ p77_1 False fu  K0 (p77_2L False fu  K0  y1 y5 y9 y13 y17 y21 y22 y23 y24 y25 j38 j39 j40 nilE nilE y43 n1) y1 y5 y9 y13 y17 y21 y22 y23 y24 y25 j38 j39 j40 nilE nilE z50 z51 z52 nilE z54 j55) (fun L hL_1 => ?_) ?_
                · conv => cbv
                  refine br_h hO h (by subst hO; rfl) (fun hc2 h => ?_) (fun hc2 h => ?_)
                  · conv => cbv
                    refine br_t hO hc2 ?_
                    conv => cbv
                    refine br_t hO hc2 ?_
                    conv => cbv
                    refine br_t hO hc2 ?_
                    conv => cbv
                    refine br_t hO hc2 ?_
                    conv => cbv
                    refine br_t hO hc2 ?_
                    conv => cbv
                    exact hL_1 _ _ ⟨(cmpStd .eql z52 0), ⟨(by (conv => lhs; cbv) <;> (subst hO; rfl)), (by (conv => lhs; cbv) <;> (subst hO; rfl))⟩, h⟩
                  · conv => cbv
                    refine br_f hO hc2 ?_
                    conv => cbv
                    refine br_f hO hc2 ?_
                    conv => cbv
                    refine br_f hO hc2 ?_
                    conv => cbv
                    refine br_f hO hc2 ?_
                    conv => cbv
                    refine br_f hO hc2 ?_
                    conv => cbv
                    exact hL_1 _ _ ⟨false, ⟨(by (conv => lhs; cbv) <;> (subst hO; rfl)), (by (conv => lhs; cbv) <;> (subst hO; rfl))⟩, h⟩
                · rintro tm m ⟨j55, hs, h⟩
                  unfold p77_1 at h
                  obtain ⟨rfl, rfl⟩ := hs
                  conv => cbv
                  refine br_h hO h (by subst hO; rfl) (fun hc1 h => ?_) (fun hc1 h => ?_)
                  · conv => cbv
                    refine join_all hO ?_
                    conv => cbv
                    refine call_h hO [.ref 3] (d_p98 fu O.len hN h) ?_
                    intro os Q hos hQ
                    conv => cbv
                    refine ⟨(by (rw [hos]) <;> (subst hO; rfl)), ?_⟩
                    intro r bs hq
                    rw [hQ] at hq
                    clear hos hQ h
                    obtain ⟨y56, y57, y58, y59, ⟨rfl, rfl⟩, h⟩ := hq
                    conv => cbv
                    refine call_h hO [.ref 3] (d_p75 fu O.len hN h) ?_
                    intro os Q hos hQ
                    conv => cbv
                    refine ⟨(by (rw [hos]) <;> (subst hO; rfl)), ?_⟩
                    intro r bs hq
                    rw [hQ] at hq
                    clear hos hQ h
                    obtain ⟨y60, y61, y62, y63, y64, y65, y66, y67, ⟨rfl, rfl⟩, h⟩ := hq
                    conv => cbv
                    refine view_h hO h (fun g => (by subst hO; exact g)) (fun h => ?_)
                    conv => cbv
                    refine and_h h (fun g => (by subst hO; exact g)) (fun h => ?_)
                    refine emp_no hO (by subst hO; exact List.cons_ne_nil _ _) ?_
                    conv => cbv
                    exact hLn1 n1 _ _ (Nat.lt_succ_self n1) ⟨y65, y66, y67, (nilE ++ (List.take 1 [[(CV.v (.string y56)), (CV.v (.int .i64 y60)), (CV.v (.int .i64 y61)), (CV.v (.string y62)), (CV.sl 3 y63 none), (CV.sl 5 y64 none)]])), binStd .add .i64 z54 1, (.inr ⟨(by (conv => lhs; cbv) <;> (subst hO; rfl)), (by (conv => lhs; cbv) <;> (subst hO; rfl))⟩), h⟩
                  · conv => cbv
                    rw [hQ]
                    exact ⟨y1, y5, y9, y13, y17, y21, y22, y23, y24, y25, j38, j39, j40, nilE, nilE, nilE, z50, z51, z52, ⟨(by subst hO; rfl), (by subst hO; rfl)⟩, h⟩
              · obtain ⟨rfl, rfl⟩ := hs
                conv => cbv
                refine reg_join hO tiA [0, 2, 3, 5, 6, 60] [0, 3000, 4000, 74000] [] (fun tm m => ∃ (j55 : Bool), ((tm = frame 0 76 [(0, .p 0 0 0), (2, .p 3000 1 0), (3, .p 4000 1 0), (5, .c (.v (.int .i64 y43))), (6, .c (.v (.int .i64 z54))), (60, .c (.v (.bool j55)))] ∧ m = ⟨[(0, .blk 0 [.c (.sl 1 z50 none), .c (.v (.int .i64 z51)), .c (.v (.int .i64 z52))]), (3000, .blk 1 [.c (.v (.int .i64 0)), .c (.v (.int .i64 0)), .c (.v (.int .i64 0)), .c (.v (.string ⟨#[]⟩)), .c (.v (.string ⟨#[]⟩)), .c (.v (.int .i64 0)), .c (.v (.int .i64 0)), .c (.v (.string ⟨#[]⟩)), .c (.sl 3 [] (some [])), .c (.sl 5 [] (some [])), .c (.v (.int .i64 0)), .c (.v (.int .i64 0)), .c (.v (.string ⟨#[]⟩)), .c (.sl 3 [] (some [])), .c (.sl 5 [] (some [])), .c (.sl 6 [] (some []))]), (4000, .blk 1 [.c (.v (.int .i64 y1)), .c (.v (.int .i64 y5)), .c (.v (.int .i64 y9)), .c (.v (.string y13)), .c (.v (.string y17)), .c (.v (.int .i64 y21)), .c (.v (.int .i64 y22)), .c (.v (.string y23)), .c (.sl 3 y24 none), .c (.sl 5 y25 none), .c (.v (.int .i64 j38)), .c (.v (.int .i64 j39)), .c (.v (.string j40)), .c (.sl 3 [] (some [])), .c (.sl 5 [] (some [])), .t 74000 1 (O.len z53)]), (74000, .arr 1 6 z53 none false)], 2⟩)) ∧ p77_1 False fu  K0 (p77_2L False fu  K0  y1 y5 y9 y13 y17 y21 y22 y23 y24 y25 j38 j39 j40 nilE nilE y43 n1) y1 y5 y9 y13 y17 y21 y22 y23 y24 y25 j38 j39 j40 nilE nilE z50 z51 z52 z53 z54 j55) (fun L hL_1 => ?_) ?_
                · conv => cbv
                  refine br_h hO h (by subst hO; rfl) (fun hc2 h => ?_) (fun hc2 h => ?_)
                  · conv => cbv
                    refine br_t hO hc2 ?_
                    conv => cbv
                    refine br_t hO hc2 ?_
                    conv => cbv
                    refine br_t hO hc2 ?_
                    conv => cbv
                    refine br_t hO hc2 ?_
                    conv => cbv
                    refine br_t hO hc2 ?_
                    conv => cbv
                    exact hL_1 _ _ ⟨(cmpStd .eql z52 0), ⟨(by (conv => lhs; cbv) <;> (subst hO; rfl)), (by (conv => lhs; cbv) <;> (subst hO; rfl))⟩, h⟩
                  · conv => cbv
                    refine br_f hO hc2 ?_
                    conv => cbv
                    refine br_f hO hc2 ?_
                    conv => cbv
                    refine br_f hO hc2 ?_
                    conv => cbv
                    refine br_f hO hc2 ?_
                    conv => cbv
                    refine br_f hO hc2 ?_
                    conv => cbv
                    exact hL_1 _ _ ⟨false, ⟨(by (conv => lhs; cbv) <;> (subst hO; rfl)), (by (conv => lhs; cbv) <;> (subst hO; rfl))⟩, h⟩
                · rintro tm m ⟨j55, hs, h⟩
                  unfold p77_1 at h
                  obtain ⟨rfl, rfl⟩ := hs
                  conv => cbv
                  refine br_h hO h (by subst hO; rfl) (fun hc1 h => ?_) (fun hc1 h => ?_)
                  · conv => cbv
                    refine join_all hO ?_
                    conv => cbv
                    refine call_h hO [.ref 3] (d_p98 fu O.len hN h) ?_
                    intro os Q hos hQ
                    conv => cbv
                    refine ⟨(by (rw [hos]) <;> (subst hO; rfl)), ?_⟩
                    intro r bs hq
                    rw [hQ] at hq
                    clear hos hQ h
                    obtain ⟨y56, y57, y58, y59, ⟨rfl, rfl⟩, h⟩ := hq
                    conv => cbv
                    refine call_h hO [.ref 3] (d_p75 fu O.len hN h) ?_
                    intro os Q hos hQ
                    conv => cbv
                    refine ⟨(by (rw [hos]) <;> (subst hO; rfl)), ?_⟩
                    intro r bs hq
                    rw [hQ] at hq
                    clear hos hQ h
                    obtain ⟨y60, y61, y62, y63, y64, y65, y66, y67, ⟨rfl, rfl⟩, h⟩ := hq
                    conv => cbv
                    refine view_h hO h (fun g => (by subst hO; exact g)) (fun h => ?_)
                    conv => cbv
                    refine ⟨(by subst hO; rfl), ?_⟩
                    refine and_h h (fun g => (by subst hO; exact g)) (fun h => ?_)
                    exact hLn1 n1 _ _ (Nat.lt_succ_self n1) ⟨y65, y66, y67, (z53 ++ (List.take 1 [[(CV.v (.string y56)), (CV.v (.int .i64 y60)), (CV.v (.int .i64 y61)), (CV.v (.string y62)), (CV.sl 3 y63 none), (CV.sl 5 y64 none)]])), binStd .add .i64 z54 1, (.inr ⟨(by (conv => lhs; cbv) <;> (subst hO; rfl)), (by (conv => lhs; cbv) <;> (subst hO; rfl))⟩), h⟩
                  · conv => cbv
                    refine view_full hO ?_
                    conv => cbv
                    rw [hQ]
                    exact ⟨y1, y5, y9, y13, y17, y21, y22, y23, y24, y25, j38, j39, j40, nilE, nilE, z53, z50, z51, z52, ⟨(by subst hO; rfl), (by subst hO; rfl)⟩, h⟩
end Go.Proofs.Ythncmjlcmlmnmaa

namespace Go.Proofs.Ythncmjlcmlmnmaa
open Go V
set_option maxRecDepth 100000
set_option maxHeartbeats 4000000
/-- ref6.TakeDecl -/
def p36 {ρ : Type} (fail : ρ) (fu : Nat)  (K0 : Int → Int → Int → ByteArray → ByteArray → Int → Int → ByteArray → EL → EL → Int → Int → ByteArray → EL → EL → EL → Int → Int → ρ) (x0 : EL) : ρ :=
  p77 fail fu (fun y1 y2 y3 y4 y5 y6 y7 y8 y9 y10 y11 y12 y13 y14 y15 y16 y17 y18 y19 => bif (cmpStd .neq y19 0) then (K0 0 0 0 ⟨#[]⟩ ⟨#[]⟩ 0 0 ⟨#[]⟩ nilE nilE 0 0 ⟨#[]⟩ nilE nilE nilE 0 y19) else (K0 y1 y2 y3 y4 y5 y6 y7 y8 y9 y10 y11 y12 y13 y14 y15 y16 y18 0)) x0 0 0
theorem d_p36 (fu : Nat)  {K0 : Int → Int → Int → ByteArray → ByteArray → Int → Int → ByteArray → EL → EL → Int → Int → ByteArray → EL → EL → EL → Int → Int → Prop} (L : EL → Nat) (hN : L = List.length) {x0 : EL} (h : p36 False fu K0 x0) : Den Try.prog G0 36 [.c (.sl 1 x0 none)] (fun r bs => (∃ (y0 : Int) (y1 : Int) (y2 : Int) (y3 : ByteArray) (y4 : ByteArray) (y5 : Int) (y6 : Int) (y7 : ByteArray) (y8 : EL) (y9 : EL) (y10 : Int) (y11 : Int) (y12 : ByteArray) (y13 : EL) (y14 : EL) (y15 : EL) (y16 : Int) (y17 : Int) (o0 : OV), (r = .tup [.agg [.c (.v (.int .i64 y0)), .c (.v (.int .i64 y1)), .c (.v (.int .i64 y2)), .c (.v (.string y3)), .c (.v (.string y4)), .c (.v (.int .i64 y5)), .c (.v (.int .i64 y6)), .c (.v (.string y7)), .c (.sl 3 y8 none), .c (.sl 5 y9 none), .c (.v (.int .i64 y10)), .c (.v (.int .i64 y11)), .c (.v (.string y12)), .c (.sl 3 y13 none), .c (.sl 5 y14 none), .c (.sl 6 y15 none)], .c (.v (.int .i64 y16)), .c (.v (.int .i64 y17))] ∧ bs = [o0]) ∧ K0 y0 y1 y2 y3 y4 y5 y6 y7 y8 y9 y10 y11 y12 y13 y14 y15 y16 y17)) := by
  obtain ⟨O, hO⟩ : ∃ O, O = std 0 T G0 (Den Try.prog G0) := ⟨_, rfl⟩
  have hLO : L = O.len := by rw [hN, hO]; rfl
  subst hLO
  refine den_h hO tiA mixed tabOk (fn := Try.f36) (sh := true) (by kernel_rfl) rfl rfl rfl rfl ?_
  intro Q hQ
  unfold p36 at h
  conv => cbv
  refine call_h hO [.ref 3] (d_p77 fu O.len hN h) ?_
  intro os Q hos hQ
  conv => cbv
  refine ⟨(by (rw [hos]) <;> (subst hO; rfl)), ?_⟩
  intro r bs hq
  rw [hQ] at hq
  clear hos hQ h
  obtain ⟨y1, y2, y3, y4, y5, y6, y7, y8, y9, y10, y11, y12, y13, y14, y15, y16, y17, y18, y19, ⟨rfl, rfl⟩, h⟩ := hq
  conv => cbv
  refine br_h hO h (by subst hO; rfl) (fun hc1 h => ?_) (fun hc1 h => ?_)
  · conv => cbv
    refine drawn_of hO tiA [[], []] [(0, true, false), (1, true, false), (2, true, false), (3, true, false), (4, true, false), (5, false, false), (6, true, false), (7, true, true)] (by kernel_rfl) ?_
    conv => cbv
    refine ⟨agree_of hO (Nat.le_of_ble_eq_true rfl) rfl, ?_⟩
    refine join_all hO ?_
    conv => cbv
    rw [hQ]
    exact ⟨0, 0, 0, ⟨#[]⟩, ⟨#[]⟩, 0, 0, ⟨#[]⟩, nilE, nilE, 0, 0, ⟨#[]⟩, nilE, nilE, nilE, 0, y19, _, ⟨(by subst hO; rfl), (by subst hO; rfl)⟩, h⟩
  · conv => cbv
    refine join_all hO ?_
    conv => cbv
    refine drawn_of hO tiA [[3000], []] [(0, true, false), (1, true, false), (2, true, false), (3, true, false), (4, true, false), (5, false, false), (6, true, true), (7, true, true)] (by kernel_rfl) ?_
    conv => cbv
    refine ⟨agree_of hO (Nat.le_of_ble_eq_true rfl) rfl, ?_⟩
    refine join_all hO ?_
    conv => cbv
    rw [hQ]
    exact ⟨y1, y2, y3, y4, y5, y6, y7, y8, y9, y10, y11, y12, y13, y14, y15, y16, y18, 0, _, ⟨(by subst hO; rfl), (by subst hO; rfl)⟩, h⟩
end Go.Proofs.Ythncmjlcmlmnmaa

namespace Go.Proofs.Ythncmjlcmlmnmaa
open Go V
set_option maxRecDepth 100000
set_option maxHeartbeats 2000000
abbrev DK19 (ρ : Type) := Int → Int → Int → ByteArray → ByteArray → Int → Int → ByteArray → EL → EL → Int → Int → ByteArray → EL → EL → EL → EL → Int → Int → ρ
theorem rdVal_kind (k : Nat) (bs : List UInt8) : rdVal k bs = match rdKind (if k = 2 then 1 else 0) (if k = 2 then 1 else 0) bs with
    | .error e => .error e
    | .ok (_, bs) => if k = 2 then rdTerm bs else .ok (tm0, bs) := by
  unfold rdVal rdKind
  cases rdV bs with
  | error e => rfl
  | ok x =>
    obtain ⟨v, r⟩ := x
    dsimp only
    by_cases k2 : k = 2
    · simp only [if_pos k2]
      by_cases h : v = 1
      · rw [if_neg (by subst h; simp [k2]), if_pos h, if_neg (by omega)]
      · rw [if_pos (by right; exact ⟨fun h' => absurd h' h, fun h' => absurd k2 h'⟩), if_pos (by omega)]
    · simp only [if_neg k2]
      by_cases h : v = 0
      · rw [if_neg (by subst h; simp [k2]), if_neg (by omega), if_neg (by omega)]
      · rw [if_pos (by
          by_cases h1 : v = 1
          · right; exact ⟨fun _ => k2, fun _ => h1⟩
          · left; omega), if_pos (by omega)]
section
variable {ρ : Type} (fail : ρ) (fu : Nat) (hfu : 200 ≤ fu)
theorem rTermE (K : TK8b ρ) (B : EL) (a e : Int) (he : e ≠ 0) (hf : 1 ≤ fu) : p75 fail fu K B a e = K 0 0 ⟨#[]⟩ nilE nilE B a e := by
  obtain ⟨m, hm⟩ : ∃ m, fu = m + 1 := ⟨fu - 1, by omega⟩
  have h : ∀ (m' : Nat) (K9 : TK9 ρ), m' = m + 1 → p115 fail m' K9 B a e 1 2000 = K9 0 0 ⟨#[]⟩ nilE nilE B a e 1999 := fun m' K9 hm' => by
    subst hm'
    rw [p115, p115_b, eqlF (by decide), cond_false, p115_12, gtrF (by decide), cond_false, p115_11, rkindE _ _ _ _ _ _ he, neqT he, cond_true]
    rfl
  rw [p75, h fu _ hm]
variable (K : DK19 ρ) (r : Int → ρ) (hK : ∀ e : Int, e ≠ 0 → ∀ y1 y2 y3 y4 y5 y6 y7 y8 y9 y10 y11 y12 y13 y14 y15 y16 y17 y18, K y1 y2 y3 y4 y5 y6 y7 y8 y9 y10 y11 y12 y13 y14 y15 y16 y17 y18 e = r e)
include hK
theorem rd2 (y1 y5 y9 : Int) (y13 y17 : ByteArray) (y21 y22 : Int) (y23 : ByteArray) (y24 y25 : EL) (j38 j39 : Int) (j40 : ByteArray) (j41 j42 : EL) (y43 : Int) (n : Nat) (B : EL) (a e : Int) (he : e ≠ 0) (z : EL) (i : Int) :
    p77_2L fail fu K y1 y5 y9 y13 y17 y21 y22 y23 y24 y25 j38 j39 j40 j41 j42 y43 (n + 1) B a e z i = r e := by
  rw [p77_2L, p77_2]
  cases cmpStd .lss i y43 with
  | true => rw [cond_true, eqlF he, p77_1, cond_false, hK e he]
  | false => rw [cond_false, p77_1, cond_false, hK e he]
theorem rd3 (hf : 1 ≤ fu) (y1 y5 y9 : Int) (y13 y17 : ByteArray) (y21 y22 : Int) (y23 : ByteArray) (y24 y25 : EL) (j38 j39 : Int) (j40 : ByteArray) (j41 j42 : EL) (y43 : Int) (B : EL) (a e : Int) (he : e ≠ 0) :
    p77_3 fail fu K y1 y5 y9 y13 y17 y21 y22 y23 y24 y25 j38 j39 j40 j41 j42 y43 B a e = r e := by
  obtain ⟨m, hm⟩ : ∃ m, fu = m + 1 := ⟨fu - 1, by omega⟩
  have h : ∀ m', m' = m + 1 → p77_2L fail fu K y1 y5 y9 y13 y17 y21 y22 y23 y24 y25 j38 j39 j40 j41 j42 y43 m' B a e nilE 0 = r e := fun m' hm' => by
    subst hm'; exact rd2 fail fu K r hK y1 y5 y9 y13 y17 y21 y22 y23 y24 y25 j38 j39 j40 j41 j42 y43 m B a e he nilE 0
  rw [p77_3]; exact h fu hm
theorem rd4 (hf : 1 ≤ fu) (y1 y5 y9 : Int) (y13 y17 : ByteArray) (y21 y22 : Int) (y23 : ByteArray) (y24 y25 : EL) (B : EL) (a e : Int) (he : e ≠ 0) (j38 j39 : Int) (j40 : ByteArray) (j41 j42 : EL) :
    p77_4 fail fu K y1 y5 y9 y13 y17 y21 y22 y23 y24 y25 B a e j38 j39 j40 j41 j42 = r e := by
  rw [p77_4, rnumE _ _ _ _ _ _ he, gtrF (by decide), cond_false, rd3 fail fu K r hK hf y1 y5 y9 y13 y17 y21 y22 y23 y24 y25 j38 j39 j40 j41 j42 0 B a e he]
theorem rd6 (hf : 1 ≤ fu) (y1 y5 y9 : Int) (y13 y17 : ByteArray) (y21 y22 : Int) (y23 : ByteArray) (y24 y25 : EL) (B : EL) (a e : Int) (he : e ≠ 0) (j : Int) :
    p77_6 fail fu K y1 y5 y9 y13 y17 y21 y22 y23 y24 y25 B a e j = r e := by
  rw [p77_6, rkindE _ _ _ _ _ _ he, eqlF he, cond_false, p77_5, cond_false, rd4 fail fu K r hK hf _ _ _ _ _ _ _ _ _ _ B a e he]
theorem rdif (hf : 1 ≤ fu) (c : Bool) (y1 y5 y9 : Int) (y13 y17 : ByteArray) (y21 y22 : Int) (y23 : ByteArray) (y24 y25 : EL) (B : EL) (a e : Int) (he : e ≠ 0) :
    (bif c then (p77_6 fail fu K y1 y5 y9 y13 y17 y21 y22 y23 y24 y25 B a e 1) else (p77_6 fail fu K y1 y5 y9 y13 y17 y21 y22 y23 y24 y25 B a e 0)) = r e := by
  cases c with
  | true => rw [cond_true, rd6 fail fu K r hK hf _ _ _ _ _ _ _ _ _ _ B a e he]
  | false => rw [cond_false, rd6 fail fu K r hK hf _ _ _ _ _ _ _ _ _ _ B a e he]
variable (all : List UInt8) (hall : all.length ≤ 1099511627776)
include hfu hall
theorem rdCts_loop (y1 y5 y9 : Int) (y13 y17 : ByteArray) (y21 y22 : Int) (y23 : ByteArray) (y24 y25 : EL) (j38 j39 : Int) (j40 : ByteArray) (j41 j42 : EL) (N : Nat) (hN : N ≤ 100) : ∀ (q n : Nat) (bs : List UInt8) (z : EL) (i p : Nat), Sfx all bs → z.length ≤ i → i + q = N → q < n →
    p77_2L fail fu K y1 y5 y9 y13 y17 y21 y22 y23 y24 y25 j38 j39 j40 j41 j42 (N : Nat) n (encB all) (atR all bs) 0 z (i : Nat) = match many rdCt q p bs with
      | .ok (l, bs', _) => K y1 y5 y9 y13 y17 y21 y22 y23 y24 y25 j38 j39 j40 j41 j42 (z ++ l.map ctRow) (encB all) (atR all bs') 0
      | .error e => r e := by
  intro q
  induction q with
  | zero =>
    intro n bs z i p hs hz hi hn
    obtain ⟨n, rfl⟩ : ∃ m, n = m + 1 := ⟨n - 1, by omega⟩
    rw [p77_2L, p77_2, lssF (by omega), cond_false, p77_1, cond_false]
    simp only [many, List.map_nil, List.append_nil]
  | succ q ih =>
    intro n bs z i p hs hz hi hn
    obtain ⟨n, rfl⟩ : ∃ m, n = m + 1 := ⟨n - 1, by omega⟩
    obtain ⟨n, rfl⟩ : ∃ m, n = m + 1 := ⟨n - 1, by omega⟩
    rw [p77_2L, p77_2, lssT (by omega), cond_true, eqlT rfl, p77_1, cond_true]
    simp only [many]
    have hn1 := rname_eq (ρ := ρ) fail fu all hall (by omega) bs hs
    have hct : rdCt p bs = match rdTxt 24 bs with
      | .error e => .error e
      | .ok (s, bs) => match rdTerm bs with
        | .error e => .error e
        | .ok (t, bs) => .ok ((⟨s.toArray⟩, t), bs, p) := rfl
    rw [hct]
    cases hx : rdTxt 24 bs with
    | error e =>
      rw [hx] at hn1
      obtain ⟨he, a, h1⟩ := hn1
      dsimp only at h1 ⊢
      rw [h1, rTermE fail fu _ _ _ _ he (by omega), gd_y (by simp), gd_y (by simp; omega), rd2 fail fu K r hK _ _ _ _ _ _ _ _ _ _ _ _ _ _ _ _ n _ _ e he]
    | ok x =>
      obtain ⟨s, bs1⟩ := x
      rw [hx] at hn1
      dsimp only [NO6] at hn1 ⊢
      have hs1 : Sfx all bs1 := (hs.of (rdTxt_ok hx).2.2.1).app
      have ht1 := rTerm_rd (ρ := ρ) fail fu all hall (by omega) bs1 hs1
      cases hy : rdTerm bs1 with
      | error e =>
        rw [hy] at ht1
        obtain ⟨he, a, b, c, l, g, B, at', h1⟩ := ht1
        dsimp only at h1 ⊢
        rw [hn1, h1, gd_y (by simp), gd_y (by simp; omega), rd2 fail fu K r hK _ _ _ _ _ _ _ _ _ _ _ _ _ _ _ _ n _ _ e he]
      | ok x =>
        obtain ⟨t, bs2⟩ := x
        rw [hy] at ht1
        dsimp only [TmO8] at ht1 ⊢
        have hs2 : Sfx all bs2 := hs1.of (rdTerm_only hy)
        have e1 : List.take 1 [[CV.v (.string ⟨s.toArray⟩), CV.v (.int .i64 t.k), CV.v (.int .i64 t.n), CV.v (.string t.nm), CV.sl 3 (Lv.rows t.ls) none, CV.sl 5 (Tm.rows t.args) none]] = [ctRow (⟨s.toArray⟩, t)] := rfl
        rw [hn1, ht1, gd_y (by simp), gd_y (by simp; omega), e1, addZ (by omega) (by omega), show ((i : Nat) : Int) + 1 = ((i + 1 : Nat) : Int) by omega, ih (n + 1) bs2 (z ++ [ctRow (⟨s.toArray⟩, t)]) (i + 1) p hs2 (by simp; omega) (by omega) (by omega)]
        cases many rdCt q p bs2 with
        | error e => rfl
        | ok x => obtain ⟨l, bs3, q3⟩ := x; dsimp only; rw [List.map_cons, List.append_assoc]; rfl
theorem rdTail_eq (y1 y5 y9 : Int) (k : Nat) (hk : y1 = (k : Nat)) (y13 y17 : ByteArray) (y21 y22 : Int) (y23 : ByteArray) (y24 y25 : EL) (bs : List UInt8) (hs : Sfx all bs) :
    (bif cmpStd .eql y1 2 then (p77_6 fail fu K y1 y5 y9 y13 y17 y21 y22 y23 y24 y25 (encB all) (atR all bs) 0 1) else (p77_6 fail fu K y1 y5 y9 y13 y17 y21 y22 y23 y24 y25 (encB all) (atR all bs) 0 0)) = match rdTail k bs with
      | .ok (v, l, bs') => K y1 y5 y9 y13 y17 y21 y22 y23 y24 y25 v.k v.n v.nm (Lv.rows v.ls) (Tm.rows v.args) (l.map ctRow) (encB all) (atR all bs') 0
      | .error e => r e := by
  have cts : ∀ (bs : List UInt8) (v : Tm), Sfx all bs → p77_4 fail fu K y1 y5 y9 y13 y17 y21 y22 y23 y24 y25 (encB all) (atR all bs) 0 v.k v.n v.nm (Lv.rows v.ls) (Tm.rows v.args) = match rdCts bs with
      | .ok (l, bs') => K y1 y5 y9 y13 y17 y21 y22 y23 y24 y25 v.k v.n v.nm (Lv.rows v.ls) (Tm.rows v.args) (l.map ctRow) (encB all) (atR all bs') 0
      | .error e => r e := fun bs v hs => by
    have hn := rnum_eq (ρ := ρ) fail fu all hall (by omega) bs hs
    rw [p77_4]
    unfold rdCts
    cases hx : rdNum bs with
    | error e =>
      rw [hx] at hn
      obtain ⟨he, a, h1⟩ := hn
      dsimp only at h1 ⊢
      rw [h1, gtrF (by decide), cond_false, rd3 fail fu K r hK (by omega) _ _ _ _ _ _ _ _ _ _ _ _ _ _ _ _ _ _ e he]
    | ok x =>
      obtain ⟨n, bs1⟩ := x
      rw [hx] at hn
      dsimp only [KO6] at hn ⊢
      have hs1 : Sfx all bs1 := hs.of (rdNum_ok hx).2.2
      rw [hn]
      by_cases h5 : 5 < n
      · rw [gtrT (by omega), cond_true, rfail0, rd3 fail fu K r hK (by omega) _ _ _ _ _ _ _ _ _ _ _ _ _ _ _ _ _ _ 3 (by decide), if_pos h5]
      · have := rdCts_loop fail fu hfu K r hK all hall y1 y5 y9 y13 y17 y21 y22 y23 y24 y25 v.k v.n v.nm (Lv.rows v.ls) (Tm.rows v.args) n (by omega) n fu bs1 nilE 0 0 hs1 (by simp) (by omega) (by omega)
        rw [gtrF (by omega), cond_false, p77_3, if_neg h5]
        refine this.trans ?_
        cases many rdCt n 0 bs1 with
        | error e => rfl
        | ok x => obtain ⟨l, bs3, q3⟩ := x; rfl
  unfold rdTail
  rw [rdVal_kind]
  by_cases k2 : k = 2
  · have hkd := rkind_eq (ρ := ρ) fail fu all hall (by omega) bs hs 1 1 (by omega)
    rw [eqlT (by omega), cond_true, p77_6]
    simp only [if_pos k2]
    cases hx : rdKind 1 1 bs with
    | error e =>
      rw [hx] at hkd
      obtain ⟨he, a, h1⟩ := hkd
      have h1' : ∀ K' : Int → EL → Int → Int → ρ, p117 fail fu K' (encB all) (atR all bs) 0 1 1 = K' 0 (encB all) a e := h1
      dsimp only
      rw [h1', eqlF he, cond_false, p77_5, cond_false, rd4 fail fu K r hK (by omega) _ _ _ _ _ _ _ _ _ _ _ _ e he]
    | ok x =>
      obtain ⟨n, bs1⟩ := x
      rw [hx] at hkd
      have h1' : ∀ K' : Int → EL → Int → Int → ρ, p117 fail fu K' (encB all) (atR all bs) 0 1 1 = K' (n : Nat) (encB all) (atR all bs1) 0 := hkd
      have hs1 : Sfx all bs1 := hs.of (rdKind_ok hx).2.2.2
      dsimp only
      have ht1 := rTerm_rd (ρ := ρ) fail fu all hall (by omega) bs1 hs1
      rw [h1', eqlT rfl, cond_true, eqlT rfl, p77_5, cond_true]
      cases hy : rdTerm bs1 with
      | error e =>
        rw [hy] at ht1
        obtain ⟨he, a, b, c, l, g, B, at', h1⟩ := ht1
        dsimp only at h1 ⊢
        rw [h1, rd4 fail fu K r hK (by omega) _ _ _ _ _ _ _ _ _ _ _ _ e he]
      | ok x =>
        obtain ⟨t, bs2⟩ := x
        rw [hy] at ht1
        dsimp only [TmO8] at ht1 ⊢
        have hs2 : Sfx all bs2 := hs1.of (rdTerm_only hy)
        rw [ht1, cts bs2 t hs2]
        cases rdCts bs2 with
        | error e => rfl
        | ok x => obtain ⟨l, bs3⟩ := x; rfl
  · have hkd := rkind_eq (ρ := ρ) fail fu all hall (by omega) bs hs 0 0 (by omega)
    rw [eqlF (by omega), cond_false, p77_6]
    simp only [if_neg k2]
    cases hx : rdKind 0 0 bs with
    | error e =>
      rw [hx] at hkd
      obtain ⟨he, a, h1⟩ := hkd
      have h1' : ∀ K' : Int → EL → Int → Int → ρ, p117 fail fu K' (encB all) (atR all bs) 0 0 0 = K' 0 (encB all) a e := h1
      dsimp only
      rw [h1', eqlF he, cond_false, p77_5, cond_false, rd4 fail fu K r hK (by omega) _ _ _ _ _ _ _ _ _ _ _ _ e he]
    | ok x =>
      obtain ⟨n, bs1⟩ := x
      rw [hx] at hkd
      have h1' : ∀ K' : Int → EL → Int → Int → ρ, p117 fail fu K' (encB all) (atR all bs) 0 0 0 = K' (n : Nat) (encB all) (atR all bs1) 0 := hkd
      have hs1 : Sfx all bs1 := hs.of (rdKind_ok hx).2.2.2
      dsimp only
      rw [h1', eqlT rfl, cond_true, eqlF (by decide), p77_5, cond_false]
      refine (cts bs1 tm0 hs1).trans ?_
      cases rdCts bs1 with
      | error e => rfl
      | ok x => obtain ⟨l, bs3⟩ := x; rfl
theorem rDecl_rd : p77 fail fu K (encB all) 0 0 = match rdDecl all with
      | .ok (d, bs') => K d.k d.pa d.ct d.nm d.fam d.ty.k d.ty.n d.ty.nm (Lv.rows d.ty.ls) (Tm.rows d.ty.args) d.val.k d.val.n d.val.nm (Lv.rows d.val.ls) (Tm.rows d.val.args) (d.cs.map ctRow) (encB all) (atR all bs') 0
      | .error e => r e := by
  have h0 : atR all all = 0 := by unfold atR; rw [Nat.sub_self]; rfl
  have hk := rkind_eq (ρ := ρ) fail fu all hall (by omega) all (Sfx.refl all) 1 5 (by omega)
  rw [h0] at hk
  rw [p77]
  unfold rdDecl
  cases hx : rdKind 1 5 all with
  | error e =>
    rw [hx] at hk
    obtain ⟨he, a, h1⟩ := hk
    have h1' : ∀ K' : Int → EL → Int → Int → ρ, p117 fail fu K' (encB all) 0 0 1 5 = K' 0 (encB all) a e := h1
    dsimp only
    rw [h1', rnumE _ _ _ _ _ _ he, rnumE _ _ _ _ _ _ he, rnameE _ _ _ _ _ _ he, rnameE _ _ _ _ _ _ he, rTermE fail fu _ _ _ _ he (by omega), rdif fail fu K r hK (by omega) _ _ _ _ _ _ _ _ _ _ _ _ _ e he]
  | ok x =>
    obtain ⟨k, b1⟩ := x
    rw [hx] at hk
    have h1' : ∀ K' : Int → EL → Int → Int → ρ, p117 fail fu K' (encB all) 0 0 1 5 = K' (k : Nat) (encB all) (atR all b1) 0 := hk
    have s1 : Sfx all b1 := (Sfx.refl all).of (rdKind_ok hx).2.2.2
    dsimp only
    rw [h1']
    have hn1 := rnum_eq (ρ := ρ) fail fu all hall (by omega) b1 s1
    unfold rdD2
    cases hx2 : rdNum b1 with
    | error e =>
      rw [hx2] at hn1
      obtain ⟨he, a, h1⟩ := hn1
      dsimp only at h1 ⊢
      rw [h1, rnumE _ _ _ _ _ _ he, rnameE _ _ _ _ _ _ he, rnameE _ _ _ _ _ _ he, rTermE fail fu _ _ _ _ he (by omega), rdif fail fu K r hK (by omega) _ _ _ _ _ _ _ _ _ _ _ _ _ e he]
    | ok x =>
      obtain ⟨pa, b2⟩ := x
      rw [hx2] at hn1
      dsimp only [KO6] at hn1 ⊢
      have s2 : Sfx all b2 := s1.of (rdNum_ok hx2).2.2
      rw [hn1]
      have hn2 := rnum_eq (ρ := ρ) fail fu all hall (by omega) b2 s2
      unfold rdD3
      cases hx3 : rdNum b2 with
      | error e =>
        rw [hx3] at hn2
        obtain ⟨he, a, h1⟩ := hn2
        dsimp only at h1 ⊢
        rw [h1, rnameE _ _ _ _ _ _ he, rnameE _ _ _ _ _ _ he, rTermE fail fu _ _ _ _ he (by omega), rdif fail fu K r hK (by omega) _ _ _ _ _ _ _ _ _ _ _ _ _ e he]
      | ok x =>
        obtain ⟨ct, b3⟩ := x
        rw [hx3] at hn2
        dsimp only [KO6] at hn2 ⊢
        have s3 : Sfx all b3 := s2.of (rdNum_ok hx3).2.2
        rw [hn2]
        have hn3 := rname_eq (ρ := ρ) fail fu all hall (by omega) b3 s3
        unfold rdD4
        cases hx4 : rdTxt 24 b3 with
        | error e =>
          rw [hx4] at hn3
          obtain ⟨he, a, h1⟩ := hn3
          dsimp only at h1 ⊢
          rw [h1, rnameE _ _ _ _ _ _ he, rTermE fail fu _ _ _ _ he (by omega), rdif fail fu K r hK (by omega) _ _ _ _ _ _ _ _ _ _ _ _ _ e he]
        | ok x =>
          obtain ⟨n1, b4⟩ := x
          rw [hx4] at hn3
          dsimp only [NO6] at hn3 ⊢
          have s4 : Sfx all b4 := (s3.of (rdTxt_ok hx4).2.2.1).app
          rw [hn3]
          have hn4 := rname_eq (ρ := ρ) fail fu all hall (by omega) b4 s4
          unfold rdD5
          cases hx5 : rdTxt 24 b4 with
          | error e =>
            rw [hx5] at hn4
            obtain ⟨he, a, h1⟩ := hn4
            dsimp only at h1 ⊢
            rw [h1, rTermE fail fu _ _ _ _ he (by omega), rdif fail fu K r hK (by omega) _ _ _ _ _ _ _ _ _ _ _ _ _ e he]
          | ok x =>
            obtain ⟨n2, b5⟩ := x
            rw [hx5] at hn4
            dsimp only [NO6] at hn4 ⊢
            have s5 : Sfx all b5 := (s4.of (rdTxt_ok hx5).2.2.1).app
            rw [hn4]
            have hn5 := rTerm_rd (ρ := ρ) fail fu all hall (by omega) b5 s5
            unfold rdD6
            cases hx6 : rdTerm b5 with
            | error e =>
              rw [hx6] at hn5
              obtain ⟨he, a, b, c, l, g, B, at', h1⟩ := hn5
              dsimp only at h1 ⊢
              rw [h1, rdif fail fu K r hK (by omega) _ _ _ _ _ _ _ _ _ _ _ _ _ e he]
            | ok x =>
              obtain ⟨t, b6⟩ := x
              rw [hx6] at hn5
              dsimp only [TmO8] at hn5 ⊢
              have s6 : Sfx all b6 := s5.of (rdTerm_only hx6)
              rw [hn5]
              refine (rdTail_eq fail fu hfu K r hK all hall (k : Nat) (pa : Nat) (ct : Nat) k rfl _ _ _ _ _ _ _ b6 s6).trans ?_
              cases rdTail k b6 with
              | error e => rfl
              | ok x => obtain ⟨v, l, b7⟩ := x; rfl
end
end Go.Proofs.Ythncmjlcmlmnmaa

