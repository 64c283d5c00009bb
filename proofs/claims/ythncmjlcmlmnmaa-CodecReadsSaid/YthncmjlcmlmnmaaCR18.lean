/- Functions without memory, and that the Go functions are followed by them. Printed by gen.py. Conditions: none. -/
import Derived.Test.YthncmjlcmlmnmaaCR9
import Derived.Test.YthncmjlcmlmnmaaCR11
namespace Go.Proofs.Ythncmjlcmlmnmaa
open Go V
set_option maxRecDepth 100000
set_option maxHeartbeats 4000000
def p76_1 {ρ : Type} (fail : ρ) (fu : Nat)  (K0 : Int → Int → Int → ByteArray → ByteArray → Int → Int → ByteArray → EL → EL → Int → Int → ByteArray → EL → EL → EL → EL → Int → ρ) (rec1 : EL → Int → EL → Int → ρ) (z46 : EL) (z47 : Int) (s51 : ByteArray) (j52 : EL) (j53 : Int) (j54 : Int) (j55 : Int) (j56 : ByteArray) (j57 : EL) (j58 : EL) : ρ :=
  gd (1 ≤ [[(CV.v (.string s51)), (CV.v (.int .i64 j54)), (CV.v (.int .i64 j55)), (CV.v (.string j56)), (CV.sl 3 j57 none), (CV.sl 5 j58 none)]].length) fail (gd ((z46.length + (List.take 1 [[(CV.v (.string s51)), (CV.v (.int .i64 j54)), (CV.v (.int .i64 j55)), (CV.v (.string j56)), (CV.sl 3 j57 none), (CV.sl 5 j58 none)]]).length) * 96 ≤ 35184372088832) fail (rec1 j52 j53 (z46 ++ (List.take 1 [[(CV.v (.string s51)), (CV.v (.int .i64 j54)), (CV.v (.int .i64 j55)), (CV.v (.string j56)), (CV.sl 3 j57 none), (CV.sl 5 j58 none)]])) (binStd .add .i64 z47 1)))
def p76_2 {ρ : Type} (fail : ρ) (fu : Nat)  (K0 : Int → Int → Int → ByteArray → ByteArray → Int → Int → ByteArray → EL → EL → Int → Int → ByteArray → EL → EL → EL → EL → Int → ρ) (rec1 : EL → Int → EL → Int → ρ) (y1 : Int) (y4 : Int) (y7 : Int) (s13 : ByteArray) (s17 : ByteArray) (j20 : Int) (j21 : Int) (j22 : ByteArray) (j23 : EL) (j24 : EL) (j34 : Int) (j35 : Int) (j36 : ByteArray) (j37 : EL) (j38 : EL) (y39 : Int) (z44 : EL) (z45 : Int) (z46 : EL) (z47 : Int) : ρ :=
  bif (cmpStd .lss z47 y39) then (bif (cmpStd .neq z45 0) then (K0 y1 y4 y7 s13 s17 j20 j21 j22 j23 j24 j34 j35 j36 j37 j38 z46 z44 z45) else (p95 fail fu (fun y48 y49 y50 => tobP fail y48 (fun s51 => bif (cmpStd .eql y50 0) then (p65 fail fu (fun y59 y60 y61 y62 y63 y64 y65 => p76_1 fail fu  K0 rec1 z46 z47 s51 y64 y65 y59 y60 y61 y62 y63) y49 y50) else (p76_1 fail fu  K0 rec1 z46 z47 s51 y49 y50 0 0 ⟨#[]⟩ nilE nilE))) z44 z45 24)) else (K0 y1 y4 y7 s13 s17 j20 j21 j22 j23 j24 j34 j35 j36 j37 j38 z46 z44 z45)
def p76_2L {ρ : Type} (fail : ρ) (fu : Nat)  (K0 : Int → Int → Int → ByteArray → ByteArray → Int → Int → ByteArray → EL → EL → Int → Int → ByteArray → EL → EL → EL → EL → Int → ρ)  (y1 : Int) (y4 : Int) (y7 : Int) (s13 : ByteArray) (s17 : ByteArray) (j20 : Int) (j21 : Int) (j22 : ByteArray) (j23 : EL) (j24 : EL) (j34 : Int) (j35 : Int) (j36 : ByteArray) (j37 : EL) (j38 : EL) (y39 : Int) : Nat → EL → Int → EL → Int → ρ
  | 0, _, _, _, _ => fail
  | n + 1, z44, z45, z46, z47 => p76_2 fail fu  K0 (p76_2L fail fu  K0  y1 y4 y7 s13 s17 j20 j21 j22 j23 j24 j34 j35 j36 j37 j38 y39 n) y1 y4 y7 s13 s17 j20 j21 j22 j23 j24 j34 j35 j36 j37 j38 y39 z44 z45 z46 z47
def p76_3 {ρ : Type} (fail : ρ) (fu : Nat)  (K0 : Int → Int → Int → ByteArray → ByteArray → Int → Int → ByteArray → EL → EL → Int → Int → ByteArray → EL → EL → EL → EL → Int → ρ)  (y1 : Int) (y4 : Int) (y7 : Int) (s13 : ByteArray) (s17 : ByteArray) (j20 : Int) (j21 : Int) (j22 : ByteArray) (j23 : EL) (j24 : EL) (j34 : Int) (j35 : Int) (j36 : ByteArray) (j37 : EL) (j38 : EL) (y39 : Int) (j42 : EL) (j43 : Int) : ρ :=
  p76_2L fail fu  K0 y1 y4 y7 s13 s17 j20 j21 j22 j23 j24 j34 j35 j36 j37 j38 y39 fu j42 j43 nilE 0
def p76_4 {ρ : Type} (fail : ρ) (fu : Nat)  (K0 : Int → Int → Int → ByteArray → ByteArray → Int → Int → ByteArray → EL → EL → Int → Int → ByteArray → EL → EL → EL → EL → Int → ρ)  (y1 : Int) (y4 : Int) (y7 : Int) (s13 : ByteArray) (s17 : ByteArray) (j20 : Int) (j21 : Int) (j22 : ByteArray) (j23 : EL) (j24 : EL) (j32 : EL) (j33 : Int) (j34 : Int) (j35 : Int) (j36 : ByteArray) (j37 : EL) (j38 : EL) : ρ :=
  p91 fail fu (fun y39 y40 y41 => bif (cmpStd .gtr y39 5) then (p94 fail fu (fun y66 y67 => p76_3 fail fu  K0 y1 y4 y7 s13 s17 j20 j21 j22 j23 j24 j34 j35 j36 j37 j38 y39 y66 y67) y40 y41 3) else (p76_3 fail fu  K0 y1 y4 y7 s13 s17 j20 j21 j22 j23 j24 j34 j35 j36 j37 j38 y39 y40 y41)) j32 j33
def p76_5 {ρ : Type} (fail : ρ) (fu : Nat)  (K0 : Int → Int → Int → ByteArray → ByteArray → Int → Int → ByteArray → EL → EL → Int → Int → ByteArray → EL → EL → EL → EL → Int → ρ)  (y1 : Int) (y4 : Int) (y7 : Int) (s13 : ByteArray) (s17 : ByteArray) (j20 : Int) (j21 : Int) (j22 : ByteArray) (j23 : EL) (j24 : EL) (j29 : EL) (j30 : Int) (j31 : Bool) : ρ :=
  bif j31 then (p65 fail fu (fun y68 y69 y70 y71 y72 y73 y74 => p76_4 fail fu  K0 y1 y4 y7 s13 s17 j20 j21 j22 j23 j24 y73 y74 y68 y69 y70 y71 y72) j29 j30) else (p76_4 fail fu  K0 y1 y4 y7 s13 s17 j20 j21 j22 j23 j24 j29 j30 0 0 ⟨#[]⟩ nilE nilE)
def p76_6 {ρ : Type} (fail : ρ) (fu : Nat)  (K0 : Int → Int → Int → ByteArray → ByteArray → Int → Int → ByteArray → EL → EL → Int → Int → ByteArray → EL → EL → EL → EL → Int → ρ)  (y1 : Int) (y4 : Int) (y7 : Int) (s13 : ByteArray) (s17 : ByteArray) (j20 : Int) (j21 : Int) (j22 : ByteArray) (j23 : EL) (j24 : EL) (y25 : Int) (j29 : EL) (j30 : Int) : ρ :=
  bif (cmpStd .eql j30 0) then (p76_5 fail fu  K0 y1 y4 y7 s13 s17 j20 j21 j22 j23 j24 j29 j30 (cmpStd .eql y25 1)) else (p76_5 fail fu  K0 y1 y4 y7 s13 s17 j20 j21 j22 j23 j24 j29 j30 false)
def p76_7 {ρ : Type} (fail : ρ) (fu : Nat)  (K0 : Int → Int → Int → ByteArray → ByteArray → Int → Int → ByteArray → EL → EL → Int → Int → ByteArray → EL → EL → EL → EL → Int → ρ)  (y1 : Int) (y4 : Int) (y7 : Int) (s13 : ByteArray) (s17 : ByteArray) (j20 : Int) (j21 : Int) (j22 : ByteArray) (j23 : EL) (j24 : EL) (y25 : Int) (y26 : EL) (y27 : Int) (j28 : Bool) : ρ :=
  bif j28 then (p94 fail fu (fun y75 y76 => p76_6 fail fu  K0 y1 y4 y7 s13 s17 j20 j21 j22 j23 j24 y25 y75 y76) y26 y27 5) else (p76_6 fail fu  K0 y1 y4 y7 s13 s17 j20 j21 j22 j23 j24 y25 y26 y27)
def p76_8 {ρ : Type} (fail : ρ) (fu : Nat)  (K0 : Int → Int → Int → ByteArray → ByteArray → Int → Int → ByteArray → EL → EL → Int → Int → ByteArray → EL → EL → EL → EL → Int → ρ)  (y1 : Int) (y4 : Int) (y7 : Int) (s13 : ByteArray) (s17 : ByteArray) (j18 : EL) (j19 : Int) (j20 : Int) (j21 : Int) (j22 : ByteArray) (j23 : EL) (j24 : EL) : ρ :=
  p116 fail fu (fun y25 y26 y27 => bif (cmpStd .gtr y25 1) then (p76_7 fail fu  K0 y1 y4 y7 s13 s17 j20 j21 j22 j23 j24 y25 y26 y27 true) else (p76_7 fail fu  K0 y1 y4 y7 s13 s17 j20 j21 j22 j23 j24 y25 y26 y27 (!((cmpStd .eql y25 1) == (cmpStd .eql y1 2))))) j18 j19
/-- (*codec.Reader).Decl -/
def p76 {ρ : Type} (fail : ρ) (fu : Nat)  (K0 : Int → Int → Int → ByteArray → ByteArray → Int → Int → ByteArray → EL → EL → Int → Int → ByteArray → EL → EL → EL → EL → Int → ρ) (x0 : EL) (x1 : Int) : ρ :=
  p93 fail fu (fun y1 y2 y3 => p91 fail fu (fun y4 y5 y6 => p91 fail fu (fun y7 y8 y9 => p95 fail fu (fun y10 y11 y12 => tobP fail y10 (fun s13 => p95 fail fu (fun y14 y15 y16 => tobP fail y14 (fun s17 => bif (cmpStd .eql y16 0) then (p65 fail fu (fun y77 y78 y79 y80 y81 y82 y83 => p76_8 fail fu  K0 y1 y4 y7 s13 s17 y82 y83 y77 y78 y79 y80 y81) y15 y16) else (p76_8 fail fu  K0 y1 y4 y7 s13 s17 y15 y16 0 0 ⟨#[]⟩ nilE nilE))) y11 y12 24)) y8 y9 24) y5 y6) y2 y3) x0 x1 1 5
theorem d_p76 (fu : Nat)  {K0 : Int → Int → Int → ByteArray → ByteArray → Int → Int → ByteArray → EL → EL → Int → Int → ByteArray → EL → EL → EL → EL → Int → Prop} (L : EL → Nat) (hN : L = List.length) {x0 : EL} {x1 : Int} (h : p76 False fu K0 x0 x1) : Den Try.prog G0 76 [.ptr [.c (.sl 1 x0 none), .c (.v (.int .i64 x1))]] (fun r bs => (∃ (y0 : Int) (y1 : Int) (y2 : Int) (y3 : ByteArray) (y4 : ByteArray) (y5 : Int) (y6 : Int) (y7 : ByteArray) (y8 : EL) (y9 : EL) (y10 : Int) (y11 : Int) (y12 : ByteArray) (y13 : EL) (y14 : EL) (y15 : EL) (y16 : EL) (y17 : Int), (r = .agg [.c (.v (.int .i64 y0)), .c (.v (.int .i64 y1)), .c (.v (.int .i64 y2)), .c (.v (.string y3)), .c (.v (.string y4)), .c (.v (.int .i64 y5)), .c (.v (.int .i64 y6)), .c (.v (.string y7)), .c (.sl 3 y8 none), .c (.sl 5 y9 none), .c (.v (.int .i64 y10)), .c (.v (.int .i64 y11)), .c (.v (.string y12)), .c (.sl 3 y13 none), .c (.sl 5 y14 none), .c (.sl 6 y15 none)] ∧ bs = [.ptr [.c (.sl 1 y16 none), .c (.v (.int .i64 y17))]]) ∧ K0 y0 y1 y2 y3 y4 y5 y6 y7 y8 y9 y10 y11 y12 y13 y14 y15 y16 y17)) := by
  obtain ⟨O, hO⟩ : ∃ O, O = std 1 T G0 (Den Try.prog G0) := ⟨_, rfl⟩
  have hLO : L = O.len := by rw [hN, hO]; rfl
  subst hLO
  refine den_h hO tiA mixed tabOk (fn := Try.f76) (sh := true) (by kernel_rfl) rfl rfl rfl rfl ?_
  intro Q hQ
  unfold p76 at h
  conv => cbv
  refine call_h hO [.ref 2, .shut, .shut] (d_p93 fu O.len hN h) ?_
  intro os Q hos hQ
  conv => cbv
  refine ⟨(by (rw [hos]) <;> (subst hO; rfl)), ?_⟩
  intro r bs hq
  rw [hQ] at hq
  clear hos hQ h
  obtain ⟨y1, y2, y3, _, _, ⟨rfl, rfl⟩, h⟩ := hq
  conv => cbv
  refine call_h hO [.ref 2] (d_p91 fu O.len hN h) ?_
  intro os Q hos hQ
  conv => cbv
  refine ⟨(by (rw [hos]) <;> (subst hO; rfl)), ?_⟩
  intro r bs hq
  rw [hQ] at hq
  clear hos hQ h
  obtain ⟨y4, y5, y6, ⟨rfl, rfl⟩, h⟩ := hq
  conv => cbv
  refine call_h hO [.ref 2] (d_p91 fu O.len hN h) ?_
  intro os Q hos hQ
  conv => cbv
  refine ⟨(by (rw [hos]) <;> (subst hO; rfl)), ?_⟩
  intro r bs hq
  rw [hQ] at hq
  clear hos hQ h
  obtain ⟨y7, y8, y9, ⟨rfl, rfl⟩, h⟩ := hq
  conv => cbv
  refine call_h hO [.ref 2, .shut] (d_p95 fu O.len hN h) ?_
  intro os Q hos hQ
  conv => cbv
  refine ⟨(by (rw [hos]) <;> (subst hO; rfl)), ?_⟩
  intro r bs hq
  rw [hQ] at hq
  clear hos hQ h
  obtain ⟨y10, y11, y12, _, ⟨rfl, rfl⟩, h⟩ := hq
  conv => cbv
  refine tob_h hO h (by subst hO; rfl) (fun s13 h => ?_)
  conv => cbv
  refine call_h hO [.ref 2, .shut] (d_p95 fu O.len hN h) ?_
  intro os Q hos hQ
  conv => cbv
  refine ⟨(by (rw [hos]) <;> (subst hO; rfl)), ?_⟩
  intro r bs hq
  rw [hQ] at hq
  clear hos hQ h
  obtain ⟨y14, y15, y16, _, ⟨rfl, rfl⟩, h⟩ := hq
  conv => cbv
  refine tob_h hO h (by subst hO; rfl) (fun s17 h => ?_)
  conv => cbv
  refine br_join_h hO tiA h (by subst hO; rfl) [0, 2, 3] [0, 3000, 4000] [] (fun tm m => ∃ (j18 : EL) (j19 : Int) (j20 : Int) (j21 : Int) (j22 : ByteArray) (j23 : EL) (j24 : EL), ((tm = frame 0 93 [(0, .p 0 0 0), (2, .p 3000 1 0), (3, .p 4000 1 0)] ∧ m = ⟨[(0, .blk 0 [.c (.sl 1 j18 none), .c (.v (.int .i64 j19))]), (3000, .blk 1 [.c (.v (.int .i64 0)), .c (.v (.int .i64 0)), .c (.v (.int .i64 0)), .c (.v (.string ⟨#[]⟩)), .c (.v (.string ⟨#[]⟩)), .c (.v (.int .i64 0)), .c (.v (.int .i64 0)), .c (.v (.string ⟨#[]⟩)), .c (.sl 3 [] (some [])), .c (.sl 5 [] (some [])), .c (.v (.int .i64 0)), .c (.v (.int .i64 0)), .c (.v (.string ⟨#[]⟩)), .c (.sl 3 [] (some [])), .c (.sl 5 [] (some [])), .c (.sl 6 [] (some []))]), (4000, .blk 1 [.c (.v (.int .i64 y1)), .c (.v (.int .i64 y4)), .c (.v (.int .i64 y7)), .c (.v (.string s13)), .c (.v (.string s17)), .c (.v (.int .i64 j20)), .c (.v (.int .i64 j21)), .c (.v (.string j22)), .c (.sl 3 j23 none), .c (.sl 5 j24 none), .c (.v (.int .i64 0)), .c (.v (.int .i64 0)), .c (.v (.string ⟨#[]⟩)), .c (.sl 3 [] (some [])), .c (.sl 5 [] (some [])), .c (.sl 6 [] (some []))])], 2⟩) ∨ (j23 = [] ∧ j24 = [] ∧ tm = frame 0 93 [(0, .p 0 0 0), (2, .p 3000 1 0), (3, .p 4000 1 0)] ∧ m = ⟨[(0, .blk 0 [.c (.sl 1 j18 none), .c (.v (.int .i64 j19))]), (3000, .blk 1 [.c (.v (.int .i64 0)), .c (.v (.int .i64 0)), .c (.v (.int .i64 0)), .c (.v (.string ⟨#[]⟩)), .c (.v (.string ⟨#[]⟩)), .c (.v (.int .i64 0)), .c (.v (.int .i64 0)), .c (.v (.string ⟨#[]⟩)), .c (.sl 3 [] (some [])), .c (.sl 5 [] (some [])), .c (.v (.int .i64 0)), .c (.v (.int .i64 0)), .c (.v (.string ⟨#[]⟩)), .c (.sl 3 [] (some [])), .c (.sl 5 [] (some [])), .c (.sl 6 [] (some []))]), (4000, .blk 1 [.c (.v (.int .i64 y1)), .c (.v (.int .i64 y4)), .c (.v (.int .i64 y7)), .c (.v (.string s13)), .c (.v (.string s17)), .c (.v (.int .i64 j20)), .c (.v (.int .i64 j21)), .c (.v (.string j22)), .c (.sl 3 [] (some [])), .c (.sl 5 [] (some [])), .c (.v (.int .i64 0)), .c (.v (.int .i64 0)), .c (.v (.string ⟨#[]⟩)), .c (.sl 3 [] (some [])), .c (.sl 5 [] (some [])), .c (.sl 6 [] (some []))])], 2⟩)) ∧ p76_8 False fu  K0 y1 y4 y7 s13 s17 j18 j19 j20 j21 j22 j23 j24) (fun hc9 h L hL_8 => ?_) (fun hc9 h L hL_8 => ?_) ?_
  · conv => cbv
    refine call_h hO [.ref 2] (d_p65 fu O.len hN h) ?_
    intro os Q hos hQ
    conv => cbv
    refine ⟨(by (rw [hos]) <;> (subst hO; rfl)), ?_⟩
    intro r bs hq
    rw [hQ] at hq
    clear hos hQ h
    obtain ⟨y77, y78, y79, y80, y81, y82, y83, ⟨rfl, rfl⟩, h⟩ := hq
    conv => cbv
    exact hL_8 _ _ ⟨y82, y83, y77, y78, y79, y80, y81, (.inl ⟨(by (conv => lhs; cbv) <;> (subst hO; rfl)), (by (conv => lhs; cbv) <;> (subst hO; rfl))⟩), h⟩
  · conv => cbv
    exact hL_8 _ _ ⟨y15, y16, 0, 0, ⟨#[]⟩, nilE, nilE, (.inr ⟨rfl, rfl, (by (conv => lhs; cbv) <;> (subst hO; rfl)), (by (conv => lhs; cbv) <;> (subst hO; rfl))⟩), h⟩
  · rintro tm m ⟨j18, j19, j20, j21, j22, j23, j24, hs, h⟩
    unfold p76_8 at h
    rcases hs with hs | hs
    · obtain ⟨rfl, rfl⟩ := hs
      conv => cbv
      refine call_h hO [.ref 2] (d_p116 fu O.len hN h) ?_
      intro os Q hos hQ
      conv => cbv
      refine ⟨(by (rw [hos]) <;> (subst hO; rfl)), ?_⟩
      intro r bs hq
      rw [hQ] at hq
      clear hos hQ h
      obtain ⟨y25, y26, y27, ⟨rfl, rfl⟩, h⟩ := hq
      conv => cbv
      refine reg_join hO tiA [0, 2, 3, 4, 43] [0, 3000, 4000] [] (fun tm m => ∃ (j28 : Bool), ((tm = frame 0 93 [(0, .p 0 0 0), (2, .p 3000 1 0), (3, .p 4000 1 0), (4, .c (.v (.int .u64 y25))), (43, .c (.v (.bool j28)))] ∧ m = ⟨[(0, .blk 0 [.c (.sl 1 y26 none), .c (.v (.int .i64 y27))]), (3000, .blk 1 [.c (.v (.int .i64 0)), .c (.v (.int .i64 0)), .c (.v (.int .i64 0)), .c (.v (.string ⟨#[]⟩)), .c (.v (.string ⟨#[]⟩)), .c (.v (.int .i64 0)), .c (.v (.int .i64 0)), .c (.v (.string ⟨#[]⟩)), .c (.sl 3 [] (some [])), .c (.sl 5 [] (some [])), .c (.v (.int .i64 0)), .c (.v (.int .i64 0)), .c (.v (.string ⟨#[]⟩)), .c (.sl 3 [] (some [])), .c (.sl 5 [] (some [])), .c (.sl 6 [] (some []))]), (4000, .blk 1 [.c (.v (.int .i64 y1)), .c (.v (.int .i64 y4)), .c (.v (.int .i64 y7)), .c (.v (.string s13)), .c (.v (.string s17)), .c (.v (.int .i64 j20)), .c (.v (.int .i64 j21)), .c (.v (.string j22)), .c (.sl 3 j23 none), .c (.sl 5 j24 none), .c (.v (.int .i64 0)), .c (.v (.int .i64 0)), .c (.v (.string ⟨#[]⟩)), .c (.sl 3 [] (some [])), .c (.sl 5 [] (some [])), .c (.sl 6 [] (some []))])], 2⟩)) ∧ p76_7 False fu  K0 y1 y4 y7 s13 s17 j20 j21 j22 j23 j24 y25 y26 y27 j28) (fun L hL_7 => ?_) ?_
      · conv => cbv
        refine br_h hO h (by subst hO; rfl) (fun hc8 h => ?_) (fun hc8 h => ?_)
        · conv => cbv
          refine br_t hO hc8 ?_
          conv => cbv
          refine br_t hO hc8 ?_
          conv => cbv
          refine br_t hO hc8 ?_
          conv => cbv
          refine br_t hO hc8 ?_
          conv => cbv
          refine br_t hO hc8 ?_
          conv => cbv
          refine br_t hO hc8 ?_
          conv => cbv
          exact hL_7 _ _ ⟨true, ⟨(by (conv => lhs; cbv) <;> (subst hO; rfl)), (by (conv => lhs; cbv) <;> (subst hO; rfl))⟩, h⟩
        · conv => cbv
          refine br_f hO hc8 ?_
          conv => cbv
          refine br_f hO hc8 ?_
          conv => cbv
          refine br_f hO hc8 ?_
          conv => cbv
          refine br_f hO hc8 ?_
          conv => cbv
          refine br_f hO hc8 ?_
          conv => cbv
          refine br_f hO hc8 ?_
          conv => cbv
          exact hL_7 _ _ ⟨(!((cmpStd .eql y25 1) == (cmpStd .eql y1 2))), ⟨(by (conv => lhs; cbv) <;> (subst hO; rfl)), (by (conv => lhs; cbv) <;> (subst hO; rfl))⟩, h⟩
      · rintro tm m ⟨j28, hs, h⟩
        unfold p76_7 at h
        obtain ⟨rfl, rfl⟩ := hs
        conv => cbv
        refine br_join_h hO tiA h (by subst hO; rfl) [0, 2, 3, 4] [0, 3000, 4000] [] (fun tm m => ∃ (j29 : EL) (j30 : Int), ((tm = frame 0 93 [(0, .p 0 0 0), (2, .p 3000 1 0), (3, .p 4000 1 0), (4, .c (.v (.int .u64 y25)))] ∧ m = ⟨[(0, .blk 0 [.c (.sl 1 j29 none), .c (.v (.int .i64 j30))]), (3000, .blk 1 [.c (.v (.int .i64 0)), .c (.v (.int .i64 0)), .c (.v (.int .i64 0)), .c (.v (.string ⟨#[]⟩)), .c (.v (.string ⟨#[]⟩)), .c (.v (.int .i64 0)), .c (.v (.int .i64 0)), .c (.v (.string ⟨#[]⟩)), .c (.sl 3 [] (some [])), .c (.sl 5 [] (some [])), .c (.v (.int .i64 0)), .c (.v (.int .i64 0)), .c (.v (.string ⟨#[]⟩)), .c (.sl 3 [] (some [])), .c (.sl 5 [] (some [])), .c (.sl 6 [] (some []))]), (4000, .blk 1 [.c (.v (.int .i64 y1)), .c (.v (.int .i64 y4)), .c (.v (.int .i64 y7)), .c (.v (.string s13)), .c (.v (.string s17)), .c (.v (.int .i64 j20)), .c (.v (.int .i64 j21)), .c (.v (.string j22)), .c (.sl 3 j23 none), .c (.sl 5 j24 none), .c (.v (.int .i64 0)), .c (.v (.int .i64 0)), .c (.v (.string ⟨#[]⟩)), .c (.sl 3 [] (some [])), .c (.sl 5 [] (some [])), .c (.sl 6 [] (some []))])], 2⟩)) ∧ p76_6 False fu  K0 y1 y4 y7 s13 s17 j20 j21 j22 j23 j24 y25 j29 j30) (fun hc7 h L hL_6 => ?_) (fun hc7 h L hL_6 => ?_) ?_
        · conv => cbv
          refine call_h hO [.ref 2, .shut] (d_p94 fu O.len hN h) ?_
          intro os Q hos hQ
          conv => cbv
          refine ⟨(by (rw [hos]) <;> (subst hO; rfl)), ?_⟩
          intro r bs hq
          rw [hQ] at hq
          clear hos hQ h
          obtain ⟨y75, y76, _, ⟨rfl, rfl⟩, h⟩ := hq
          conv => cbv
          exact hL_6 _ _ ⟨y75, y76, ⟨(by (conv => lhs; cbv) <;> (subst hO; rfl)), (by (conv => lhs; cbv) <;> (subst hO; rfl))⟩, h⟩
        · conv => cbv
          exact hL_6 _ _ ⟨y26, y27, ⟨(by (conv => lhs; cbv) <;> (subst hO; rfl)), (by (conv => lhs; cbv) <;> (subst hO; rfl))⟩, h⟩
        · rintro tm m ⟨j29, j30, hs, h⟩
          unfold p76_6 at h
          obtain ⟨rfl, rfl⟩ := hs
          conv => cbv
          refine reg_join hO tiA [0, 2, 3, 54] [0, 3000, 4000] [] (fun tm m => ∃ (j31 : Bool), ((tm = frame 0 93 [(0, .p 0 0 0), (2, .p 3000 1 0), (3, .p 4000 1 0), (54, .c (.v (.bool j31)))] ∧ m = ⟨[(0, .blk 0 [.c (.sl 1 j29 none), .c (.v (.int .i64 j30))]), (3000, .blk 1 [.c (.v (.int .i64 0)), .c (.v (.int .i64 0)), .c (.v (.int .i64 0)), .c (.v (.string ⟨#[]⟩)), .c (.v (.string ⟨#[]⟩)), .c (.v (.int .i64 0)), .c (.v (.int .i64 0)), .c (.v (.string ⟨#[]⟩)), .c (.sl 3 [] (some [])), .c (.sl 5 [] (some [])), .c (.v (.int .i64 0)), .c (.v (.int .i64 0)), .c (.v (.string ⟨#[]⟩)), .c (.sl 3 [] (some [])), .c (.sl 5 [] (some [])), .c (.sl 6 [] (some []))]), (4000, .blk 1 [.c (.v (.int .i64 y1)), .c (.v (.int .i64 y4)), .c (.v (.int .i64 y7)), .c (.v (.string s13)), .c (.v (.string s17)), .c (.v (.int .i64 j20)), .c (.v (.int .i64 j21)), .c (.v (.string j22)), .c (.sl 3 j23 none), .c (.sl 5 j24 none), .c (.v (.int .i64 0)), .c (.v (.int .i64 0)), .c (.v (.string ⟨#[]⟩)), .c (.sl 3 [] (some [])), .c (.sl 5 [] (some [])), .c (.sl 6 [] (some []))])], 2⟩)) ∧ p76_5 False fu  K0 y1 y4 y7 s13 s17 j20 j21 j22 j23 j24 j29 j30 j31) (fun L hL_5 => ?_) ?_
          · conv => cbv
            refine br_h hO h (by subst hO; rfl) (fun hc6 h => ?_) (fun hc6 h => ?_)
            · conv => cbv
              refine br_t hO hc6 ?_
              conv => cbv
              refine br_t hO hc6 ?_
              conv => cbv
              exact hL_5 _ _ ⟨(cmpStd .eql y25 1), ⟨(by (conv => lhs; cbv) <;> (subst hO; rfl)), (by (conv => lhs; cbv) <;> (subst hO; rfl))⟩, h⟩
            · conv => cbv
              refine br_f hO hc6 ?_
              conv => cbv
              refine br_f hO hc6 ?_
              conv => cbv
              exact hL_5 _ _ ⟨false, ⟨(by (conv => lhs; cbv) <;> (subst hO; rfl)), (by (conv => lhs; cbv) <;> (subst hO; rfl))⟩, h⟩
          · rintro tm m ⟨j31, hs, h⟩
            unfold p76_5 at h
            obtain ⟨rfl, rfl⟩ := hs
            conv => cbv
            refine br_join_h hO tiA h (by subst hO; rfl) [0, 2, 3] [0, 3000, 4000] [] (fun tm m => ∃ (j32 : EL) (j33 : Int) (j34 : Int) (j35 : Int) (j36 : ByteArray) (j37 : EL) (j38 : EL), ((tm = frame 0 93 [(0, .p 0 0 0), (2, .p 3000 1 0), (3, .p 4000 1 0)] ∧ m = ⟨[(0, .blk 0 [.c (.sl 1 j32 none), .c (.v (.int .i64 j33))]), (3000, .blk 1 [.c (.v (.int .i64 0)), .c (.v (.int .i64 0)), .c (.v (.int .i64 0)), .c (.v (.string ⟨#[]⟩)), .c (.v (.string ⟨#[]⟩)), .c (.v (.int .i64 0)), .c (.v (.int .i64 0)), .c (.v (.string ⟨#[]⟩)), .c (.sl 3 [] (some [])), .c (.sl 5 [] (some [])), .c (.v (.int .i64 0)), .c (.v (.int .i64 0)), .c (.v (.string ⟨#[]⟩)), .c (.sl 3 [] (some [])), .c (.sl 5 [] (some [])), .c (.sl 6 [] (some []))]), (4000, .blk 1 [.c (.v (.int .i64 y1)), .c (.v (.int .i64 y4)), .c (.v (.int .i64 y7)), .c (.v (.string s13)), .c (.v (.string s17)), .c (.v (.int .i64 j20)), .c (.v (.int .i64 j21)), .c (.v (.string j22)), .c (.sl 3 j23 none), .c (.sl 5 j24 none), .c (.v (.int .i64 j34)), .c (.v (.int .i64 j35)), .c (.v (.string j36)), .c (.sl 3 j37 none), .c (.sl 5 j38 none), .c (.sl 6 [] (some []))])], 2⟩) ∨ (j37 = [] ∧ j38 = [] ∧ tm = frame 0 93 [(0, .p 0 0 0), (2, .p 3000 1 0), (3, .p 4000 1 0)] ∧ m = ⟨[(0, .blk 0 [.c (.sl 1 j32 none), .c (.v (.int .i64 j33))]), (3000, .blk 1 [.c (.v (.int .i64 0)), .c (.v (.int .i64 0)), .c (.v (.int .i64 0)), .c (.v (.string ⟨#[]⟩)), .c (.v (.string ⟨#[]⟩)), .c (.v (.int .i64 0)), .c (.v (.int .i64 0)), .c (.v (.string ⟨#[]⟩)), .c (.sl 3 [] (some [])), .c (.sl 5 [] (some [])), .c (.v (.int .i64 0)), .c (.v (.int .i64 0)), .c (.v (.string ⟨#[]⟩)), .c (.sl 3 [] (some [])), .c (.sl 5 [] (some [])), .c (.sl 6 [] (some []))]), (4000, .blk 1 [.c (.v (.int .i64 y1)), .c (.v (.int .i64 y4)), .c (.v (.int .i64 y7)), .c (.v (.string s13)), .c (.v (.string s17)), .c (.v (.int .i64 j20)), .c (.v (.int .i64 j21)), .c (.v (.string j22)), .c (.sl 3 j23 none), .c (.sl 5 j24 none), .c (.v (.int .i64 j34)), .c (.v (.int .i64 j35)), .c (.v (.string j36)), .c (.sl 3 [] (some [])), .c (.sl 5 [] (some [])), .c (.sl 6 [] (some []))])], 2⟩)) ∧ p76_4 False fu  K0 y1 y4 y7 s13 s17 j20 j21 j22 j23 j24 j32 j33 j34 j35 j36 j37 j38) (fun hc5 h L hL_4 => ?_) (fun hc5 h L hL_4 => ?_) ?_
            · conv => cbv
              refine call_h hO [.ref 2] (d_p65 fu O.len hN h) ?_
              intro os Q hos hQ
              conv => cbv
              refine ⟨(by (rw [hos]) <;> (subst hO; rfl)), ?_⟩
              intro r bs hq
              rw [hQ] at hq
              clear hos hQ h
              obtain ⟨y68, y69, y70, y71, y72, y73, y74, ⟨rfl, rfl⟩, h⟩ := hq
              conv => cbv
              exact hL_4 _ _ ⟨y73, y74, y68, y69, y70, y71, y72, (.inl ⟨(by (conv => lhs; cbv) <;> (subst hO; rfl)), (by (conv => lhs; cbv) <;> (subst hO; rfl))⟩), h⟩
            · conv => cbv
              exact hL_4 _ _ ⟨j29, j30, 0, 0, ⟨#[]⟩, nilE, nilE, (.inr ⟨rfl, rfl, (by (conv => lhs; cbv) <;> (subst hO; rfl)), (by (conv => lhs; cbv) <;> (subst hO; rfl))⟩), h⟩
            · rintro tm m ⟨j32, j33, j34, j35, j36, j37, j38, hs, h⟩
              unfold p76_4 at h
              rcases hs with hs | hs
              · obtain ⟨rfl, rfl⟩ := hs
                conv => cbv
                refine call_h hO [.ref 2] (d_p91 fu O.len hN h) ?_
                intro os Q hos hQ
                conv => cbv
                refine ⟨(by (rw [hos]) <;> (subst hO; rfl)), ?_⟩
                intro r bs hq
                rw [hQ] at hq
                clear hos hQ h
                obtain ⟨y39, y40, y41, ⟨rfl, rfl⟩, h⟩ := hq
                conv => cbv
                refine br_join_h hO tiA h (by subst hO; rfl) [0, 2, 3, 5] [0, 3000, 4000] [] (fun tm m => ∃ (j42 : EL) (j43 : Int), ((tm = frame 0 93 [(0, .p 0 0 0), (2, .p 3000 1 0), (3, .p 4000 1 0), (5, .c (.v (.int .i64 y39)))] ∧ m = ⟨[(0, .blk 0 [.c (.sl 1 j42 none), .c (.v (.int .i64 j43))]), (3000, .blk 1 [.c (.v (.int .i64 0)), .c (.v (.int .i64 0)), .c (.v (.int .i64 0)), .c (.v (.string ⟨#[]⟩)), .c (.v (.string ⟨#[]⟩)), .c (.v (.int .i64 0)), .c (.v (.int .i64 0)), .c (.v (.string ⟨#[]⟩)), .c (.sl 3 [] (some [])), .c (.sl 5 [] (some [])), .c (.v (.int .i64 0)), .c (.v (.int .i64 0)), .c (.v (.string ⟨#[]⟩)), .c (.sl 3 [] (some [])), .c (.sl 5 [] (some [])), .c (.sl 6 [] (some []))]), (4000, .blk 1 [.c (.v (.int .i64 y1)), .c (.v (.int .i64 y4)), .c (.v (.int .i64 y7)), .c (.v (.string s13)), .c (.v (.string s17)), .c (.v (.int .i64 j20)), .c (.v (.int .i64 j21)), .c (.v (.string j22)), .c (.sl 3 j23 none), .c (.sl 5 j24 none), .c (.v (.int .i64 j34)), .c (.v (.int .i64 j35)), .c (.v (.string j36)), .c (.sl 3 j37 none), .c (.sl 5 j38 none), .c (.sl 6 [] (some []))])], 2⟩)) ∧ p76_3 False fu  K0 y1 y4 y7 s13 s17 j20 j21 j22 j23 j24 j34 j35 j36 j37 j38 y39 j42 j43) (fun hc4 h L hL_3 => ?_) (fun hc4 h L hL_3 => ?_) ?_
                · conv => cbv
                  refine call_h hO [.ref 2, .shut] (d_p94 fu O.len hN h) ?_
                  intro os Q hos hQ
                  conv => cbv
                  refine ⟨(by (rw [hos]) <;> (subst hO; rfl)), ?_⟩
                  intro r bs hq
                  rw [hQ] at hq
                  clear hos hQ h
                  obtain ⟨y66, y67, _, ⟨rfl, rfl⟩, h⟩ := hq
                  conv => cbv
                  exact hL_3 _ _ ⟨y66, y67, ⟨(by (conv => lhs; cbv) <;> (subst hO; rfl)), (by (conv => lhs; cbv) <;> (subst hO; rfl))⟩, h⟩
                · conv => cbv
                  exact hL_3 _ _ ⟨y40, y41, ⟨(by (conv => lhs; cbv) <;> (subst hO; rfl)), (by (conv => lhs; cbv) <;> (subst hO; rfl))⟩, h⟩
                · rintro tm m ⟨j42, j43, hs, h⟩
                  unfold p76_3 at h
                  obtain ⟨rfl, rfl⟩ := hs
                  conv => cbv
                  refine loop_of hO tiA [0, 2, 3, 64, 65] [0, 3000, 4000, 90000] [] (fun (n : Nat) tm m => ∃ (z44 : EL) (z45 : Int) (z46 : EL) (z47 : Int), ((z46 = [] ∧ tm = frame 0 93 [(0, .p 0 0 0), (2, .p 3000 1 0), (3, .p 4000 1 0), (64, .c (.v (.int .i64 y39))), (65, .c (.v (.int .i64 z47)))] ∧ m = ⟨[(0, .blk 0 [.c (.sl 1 z44 none), .c (.v (.int .i64 z45))]), (3000, .blk 1 [.c (.v (.int .i64 0)), .c (.v (.int .i64 0)), .c (.v (.int .i64 0)), .c (.v (.string ⟨#[]⟩)), .c (.v (.string ⟨#[]⟩)), .c (.v (.int .i64 0)), .c (.v (.int .i64 0)), .c (.v (.string ⟨#[]⟩)), .c (.sl 3 [] (some [])), .c (.sl 5 [] (some [])), .c (.v (.int .i64 0)), .c (.v (.int .i64 0)), .c (.v (.string ⟨#[]⟩)), .c (.sl 3 [] (some [])), .c (.sl 5 [] (some [])), .c (.sl 6 [] (some []))]), (4000, .blk 1 [.c (.v (.int .i64 y1)), .c (.v (.int .i64 y4)), .c (.v (.int .i64 y7)), .c (.v (.string s13)), .c (.v (.string s17)), .c (.v (.int .i64 j20)), .c (.v (.int .i64 j21)), .c (.v (.string j22)), .c (.sl 3 j23 none), .c (.sl 5 j24 none), .c (.v (.int .i64 j34)), .c (.v (.int .i64 j35)), .c (.v (.string j36)), .c (.sl 3 j37 none), .c (.sl 5 j38 none), .c (.sl 6 [] (some []))])], 2⟩) ∨ (tm = frame 0 93 [(0, .p 0 0 0), (2, .p 3000 1 0), (3, .p 4000 1 0), (64, .c (.v (.int .i64 y39))), (65, .c (.v (.int .i64 z47)))] ∧ m = ⟨[(0, .blk 0 [.c (.sl 1 z44 none), .c (.v (.int .i64 z45))]), (3000, .blk 1 [.c (.v (.int .i64 0)), .c (.v (.int .i64 0)), .c (.v (.int .i64 0)), .c (.v (.string ⟨#[]⟩)), .c (.v (.string ⟨#[]⟩)), .c (.v (.int .i64 0)), .c (.v (.int .i64 0)), .c (.v (.string ⟨#[]⟩)), .c (.sl 3 [] (some [])), .c (.sl 5 [] (some [])), .c (.v (.int .i64 0)), .c (.v (.int .i64 0)), .c (.v (.string ⟨#[]⟩)), .c (.sl 3 [] (some [])), .c (.sl 5 [] (some [])), .c (.sl 6 [] (some []))]), (4000, .blk 1 [.c (.v (.int .i64 y1)), .c (.v (.int .i64 y4)), .c (.v (.int .i64 y7)), .c (.v (.string s13)), .c (.v (.string s17)), .c (.v (.int .i64 j20)), .c (.v (.int .i64 j21)), .c (.v (.string j22)), .c (.sl 3 j23 none), .c (.sl 5 j24 none), .c (.v (.int .i64 j34)), .c (.v (.int .i64 j35)), .c (.v (.string j36)), .c (.sl 3 j37 none), .c (.sl 5 j38 none), .t 90000 1 (O.len z46)]), (90000, .arr 1 6 z46 none false)], 2⟩)) ∧ p76_2L False fu  K0 y1 y4 y7 s13 s17 j20 j21 j22 j23 j24 j34 j35 j36 j37 j38 y39 n z44 z45 z46 z47) (fun n => n) fu ⟨j42, j43, nilE, 0, (.inl ⟨rfl, (by (conv => lhs; cbv) <;> (subst hO; rfl)), (by (conv => lhs; cbv) <;> (subst hO; rfl))⟩), h⟩ ?_
                  rintro n1 tm m L ⟨z44, z45, z46, z47, hs, h⟩ hLn1
                  cases n1 with
                  | zero => rw [p76_2L] at h; exact h.elim
                  | succ n1 =>
                    rw [p76_2L] at h
                    unfold p76_2 at h
                    rcases hs with hs | hs
                    · obtain ⟨rfl, rfl, rfl⟩ := hs
                      conv => cbv
                      refine br_h hO h (by subst hO; rfl) (fun hc1 h => ?_) (fun hc1 h => ?_)
                      · conv => cbv
                        refine join_all hO ?_
                        conv => cbv
                        refine br_h hO h (by subst hO; rfl) (fun hc2 h => ?_) (fun hc2 h => ?_)
                        · conv => cbv
                          rw [hQ]
                          exact ⟨y1, y4, y7, s13, s17, j20, j21, j22, j23, j24, j34, j35, j36, j37, j38, nilE, z44, z45, ⟨(by subst hO; rfl), (by subst hO; rfl)⟩, h⟩
                        · conv => cbv
                          refine join_all hO ?_
                          conv => cbv
                          refine call_h hO [.ref 2, .shut] (d_p95 fu O.len hN h) ?_
                          intro os Q hos hQ
                          conv => cbv
                          refine ⟨(by (rw [hos]) <;> (subst hO; rfl)), ?_⟩
                          intro r bs hq
                          rw [hQ] at hq
                          clear hos hQ h
                          obtain ⟨y48, y49, y50, _, ⟨rfl, rfl⟩, h⟩ := hq
                          conv => cbv
                          refine tob_h hO h (by subst hO; rfl) (fun s51 h => ?_)
                          conv => cbv
                          refine br_join_h hO tiA h (by subst hO; rfl) [0, 2, 3, 6, 64, 65] [0, 3000, 4000, 7000] [] (fun tm m => ∃ (j52 : EL) (j53 : Int) (j54 : Int) (j55 : Int) (j56 : ByteArray) (j57 : EL) (j58 : EL), ((tm = frame 0 93 [(0, .p 0 0 0), (2, .p 3000 1 0), (3, .p 4000 1 0), (6, .p 7000 1 0), (64, .c (.v (.int .i64 y39))), (65, .c (.v (.int .i64 z47)))] ∧ m = ⟨[(0, .blk 0 [.c (.sl 1 j52 none), .c (.v (.int .i64 j53))]), (3000, .blk 1 [.c (.v (.int .i64 0)), .c (.v (.int .i64 0)), .c (.v (.int .i64 0)), .c (.v (.string ⟨#[]⟩)), .c (.v (.string ⟨#[]⟩)), .c (.v (.int .i64 0)), .c (.v (.int .i64 0)), .c (.v (.string ⟨#[]⟩)), .c (.sl 3 [] (some [])), .c (.sl 5 [] (some [])), .c (.v (.int .i64 0)), .c (.v (.int .i64 0)), .c (.v (.string ⟨#[]⟩)), .c (.sl 3 [] (some [])), .c (.sl 5 [] (some [])), .c (.sl 6 [] (some []))]), (4000, .blk 1 [.c (.v (.int .i64 y1)), .c (.v (.int .i64 y4)), .c (.v (.int .i64 y7)), .c (.v (.string s13)), .c (.v (.string s17)), .c (.v (.int .i64 j20)), .c (.v (.int .i64 j21)), .c (.v (.string j22)), .c (.sl 3 j23 none), .c (.sl 5 j24 none), .c (.v (.int .i64 j34)), .c (.v (.int .i64 j35)), .c (.v (.string j36)), .c (.sl 3 j37 none), .c (.sl 5 j38 none), .c (.sl 6 [] (some []))]), (7000, .blk 1 [.c (.v (.string s51)), .c (.v (.int .i64 j54)), .c (.v (.int .i64 j55)), .c (.v (.string j56)), .c (.sl 3 j57 none), .c (.sl 5 j58 none)])], 2⟩) ∨ (j57 = [] ∧ j58 = [] ∧ tm = frame 0 93 [(0, .p 0 0 0), (2, .p 3000 1 0), (3, .p 4000 1 0), (6, .p 7000 1 0), (64, .c (.v (.int .i64 y39))), (65, .c (.v (.int .i64 z47)))] ∧ m = ⟨[(0, .blk 0 [.c (.sl 1 j52 none), .c (.v (.int .i64 j53))]), (3000, .blk 1 [.c (.v (.int .i64 0)), .c (.v (.int .i64 0)), .c (.v (.int .i64 0)), .c (.v (.string ⟨#[]⟩)), .c (.v (.string ⟨#[]⟩)), .c (.v (.int .i64 0)), .c (.v (.int .i64 0)), .c (.v (.string ⟨#[]⟩)), .c (.sl 3 [] (some [])), .c (.sl 5 [] (some [])), .c (.v (.int .i64 0)), .c (.v (.int .i64 0)), .c (.v (.string ⟨#[]⟩)), .c (.sl 3 [] (some [])), .c (.sl 5 [] (some [])), .c (.sl 6 [] (some []))]), (4000, .blk 1 [.c (.v (.int .i64 y1)), .c (.v (.int .i64 y4)), .c (.v (.int .i64 y7)), .c (.v (.string s13)), .c (.v (.string s17)), .c (.v (.int .i64 j20)), .c (.v (.int .i64 j21)), .c (.v (.string j22)), .c (.sl 3 j23 none), .c (.sl 5 j24 none), .c (.v (.int .i64 j34)), .c (.v (.int .i64 j35)), .c (.v (.string j36)), .c (.sl 3 j37 none), .c (.sl 5 j38 none), .c (.sl 6 [] (some []))]), (7000, .blk 1 [.c (.v (.string s51)), .c (.v (.int .i64 j54)), .c (.v (.int .i64 j55)), .c (.v (.string j56)), .c (.sl 3 [] (some [])), .c (.sl 5 [] (some []))])], 2⟩)) ∧ p76_1 False fu  K0 (p76_2L False fu  K0  y1 y4 y7 s13 s17 j20 j21 j22 j23 j24 j34 j35 j36 j37 j38 y39 n1) nilE z47 s51 j52 j53 j54 j55 j56 j57 j58) (fun hc3 h L hL_1 => ?_) (fun hc3 h L hL_1 => ?_) ?_
                          · conv => cbv
                            refine call_h hO [.ref 2] (d_p65 fu O.len hN h) ?_
                            intro os Q hos hQ
                            conv => cbv
                            refine ⟨(by (rw [hos]) <;> (subst hO; rfl)), ?_⟩
                            intro r bs hq
                            rw [hQ] at hq
                            clear hos hQ h
                            obtain ⟨y59, y60, y61, y62, y63, y64, y65, ⟨rfl, rfl⟩, h⟩ := hq
                            conv => cbv
                            exact hL_1 _ _ ⟨y64, y65, y59, y60, y61, y62, y63, (.inl ⟨(by (conv => lhs; cbv) <;> (subst hO; rfl)), (by (conv => lhs; cbv) <;> (subst hO; rfl))⟩), h⟩
                          · conv => cbv
                            exact hL_1 _ _ ⟨y49, y50, 0, 0, ⟨#[]⟩, nilE, nilE, (.inr ⟨rfl, rfl, (by (conv => lhs; cbv) <;> (subst hO; rfl)), (by (conv => lhs; cbv) <;> (subst hO; rfl))⟩), h⟩
                          · rintro tm m ⟨j52, j53, j54, j55, j56, j57, j58, hs, h⟩
                            unfold p76_1 at h
                            rcases hs with hs | hs
                            · obtain ⟨rfl, rfl⟩ := hs
                              conv => cbv
                              refine view_h hO h (fun g => (by subst hO; exact g)) (fun h => ?_)
                              conv => cbv
                              refine and_h h (fun g => (by subst hO; exact g)) (fun h => ?_)
                              refine emp_no hO (by subst hO; exact List.cons_ne_nil _ _) ?_
                              conv => cbv
                              exact hLn1 n1 _ _ (Nat.lt_succ_self n1) ⟨j52, j53, (nilE ++ (List.take 1 [[(CV.v (.string s51)), (CV.v (.int .i64 j54)), (CV.v (.int .i64 j55)), (CV.v (.string j56)), (CV.sl 3 j57 none), (CV.sl 5 j58 none)]])), binStd .add .i64 z47 1, (.inr ⟨(by (conv => lhs; cbv) <;> (subst hO; rfl)), (by (conv => lhs; cbv) <;> (subst hO; rfl))⟩), h⟩
                            · obtain ⟨rfl, rfl, rfl, rfl⟩ := hs
                              conv => cbv
                              refine view_h hO h (fun g => (by subst hO; exact g)) (fun h => ?_)
                              conv => cbv
                              refine and_h h (fun g => (by subst hO; exact g)) (fun h => ?_)
                              refine emp_no hO (by subst hO; exact List.cons_ne_nil _ _) ?_
                              conv => cbv
                              exact hLn1 n1 _ _ (Nat.lt_succ_self n1) ⟨j52, j53, (nilE ++ (List.take 1 [[(CV.v (.string s51)), (CV.v (.int .i64 j54)), (CV.v (.int .i64 j55)), (CV.v (.string j56)), (CV.sl 3 nilE none), (CV.sl 5 nilE none)]])), binStd .add .i64 z47 1, (.inr ⟨(by (conv => lhs; cbv) <;> (subst hO; rfl)), (by (conv => lhs; cbv) <;> (subst hO; rfl))⟩), h⟩
                      · conv => cbv
                        rw [hQ]
                        exact ⟨y1, y4, y7, s13, s17, j20, j21, j22, j23, j24, j34, j35, j36, j37, j38, nilE, z44, z45, ⟨(by subst hO; rfl), (by subst hO; rfl)⟩, h⟩
                    · obtain ⟨rfl, rfl⟩ := hs
                      conv => cbv
                      refine br_h hO h (by subst hO; rfl) (fun hc1 h => ?_) (fun hc1 h => ?_)
                      · conv => cbv
                        refine join_all hO ?_
                        conv => cbv
                        refine br_h hO h (by subst hO; rfl) (fun hc2 h => ?_) (fun hc2 h => ?_)
                        · conv => cbv
                          refine view_full hO ?_
                          conv => cbv
                          rw [hQ]
                          exact ⟨y1, y4, y7, s13, s17, j20, j21, j22, j23, j24, j34, j35, j36, j37, j38, z46, z44, z45, ⟨(by subst hO; rfl), (by subst hO; rfl)⟩, h⟩
                        · conv => cbv
                          refine join_all hO ?_
                          conv => cbv
                          refine call_h hO [.ref 2, .shut] (d_p95 fu O.len hN h) ?_
                          intro os Q hos hQ
                          conv => cbv
                          refine ⟨(by (rw [hos]) <;> (subst hO; rfl)), ?_⟩
                          intro r bs hq
                          rw [hQ] at hq
                          clear hos hQ h
                          obtain ⟨y48, y49, y50, _, ⟨rfl, rfl⟩, h⟩ := hq
                          conv => cbv
                          refine tob_h hO h (by subst hO; rfl) (fun s51 h => ?_)
                          conv => cbv
                          refine br_join_h hO tiA h (by subst hO; rfl) [0, 2, 3, 6, 64, 65] [0, 3000, 4000, 7000, 90000] [] (fun tm m => ∃ (j52 : EL) (j53 : Int) (j54 : Int) (j55 : Int) (j56 : ByteArray) (j57 : EL) (j58 : EL), ((tm = frame 0 93 [(0, .p 0 0 0), (2, .p 3000 1 0), (3, .p 4000 1 0), (6, .p 7000 1 0), (64, .c (.v (.int .i64 y39))), (65, .c (.v (.int .i64 z47)))] ∧ m = ⟨[(0, .blk 0 [.c (.sl 1 j52 none), .c (.v (.int .i64 j53))]), (3000, .blk 1 [.c (.v (.int .i64 0)), .c (.v (.int .i64 0)), .c (.v (.int .i64 0)), .c (.v (.string ⟨#[]⟩)), .c (.v (.string ⟨#[]⟩)), .c (.v (.int .i64 0)), .c (.v (.int .i64 0)), .c (.v (.string ⟨#[]⟩)), .c (.sl 3 [] (some [])), .c (.sl 5 [] (some [])), .c (.v (.int .i64 0)), .c (.v (.int .i64 0)), .c (.v (.string ⟨#[]⟩)), .c (.sl 3 [] (some [])), .c (.sl 5 [] (some [])), .c (.sl 6 [] (some []))]), (4000, .blk 1 [.c (.v (.int .i64 y1)), .c (.v (.int .i64 y4)), .c (.v (.int .i64 y7)), .c (.v (.string s13)), .c (.v (.string s17)), .c (.v (.int .i64 j20)), .c (.v (.int .i64 j21)), .c (.v (.string j22)), .c (.sl 3 j23 none), .c (.sl 5 j24 none), .c (.v (.int .i64 j34)), .c (.v (.int .i64 j35)), .c (.v (.string j36)), .c (.sl 3 j37 none), .c (.sl 5 j38 none), .t 90000 1 (O.len z46)]), (7000, .blk 1 [.c (.v (.string s51)), .c (.v (.int .i64 j54)), .c (.v (.int .i64 j55)), .c (.v (.string j56)), .c (.sl 3 j57 none), .c (.sl 5 j58 none)]), (90000, .arr 1 6 z46 none false)], 2⟩) ∨ (j57 = [] ∧ j58 = [] ∧ tm = frame 0 93 [(0, .p 0 0 0), (2, .p 3000 1 0), (3, .p 4000 1 0), (6, .p 7000 1 0), (64, .c (.v (.int .i64 y39))), (65, .c (.v (.int .i64 z47)))] ∧ m = ⟨[(0, .blk 0 [.c (.sl 1 j52 none), .c (.v (.int .i64 j53))]), (3000, .blk 1 [.c (.v (.int .i64 0)), .c (.v (.int .i64 0)), .c (.v (.int .i64 0)), .c (.v (.string ⟨#[]⟩)), .c (.v (.string ⟨#[]⟩)), .c (.v (.int .i64 0)), .c (.v (.int .i64 0)), .c (.v (.string ⟨#[]⟩)), .c (.sl 3 [] (some [])), .c (.sl 5 [] (some [])), .c (.v (.int .i64 0)), .c (.v (.int .i64 0)), .c (.v (.string ⟨#[]⟩)), .c (.sl 3 [] (some [])), .c (.sl 5 [] (some [])), .c (.sl 6 [] (some []))]), (4000, .blk 1 [.c (.v (.int .i64 y1)), .c (.v (.int .i64 y4)), .c (.v (.int .i64 y7)), .c (.v (.string s13)), .c (.v (.string s17)), .c (.v (.int .i64 j20)), .c (.v (.int .i64 j21)), .c (.v (.string j22)), .c (.sl 3 j23 none), .c (.sl 5 j24 none), .c (.v (.int .i64 j34)), .c (.v (.int .i64 j35)), .c (.v (.string j36)), .c (.sl 3 j37 none), .c (.sl 5 j38 none), .t 90000 1 (O.len z46)]), (7000, .blk 1 [.c (.v (.string s51)), .c (.v (.int .i64 j54)), .c (.v (.int .i64 j55)), .c (.v (.string j56)), .c (.sl 3 [] (some [])), .c (.sl 5 [] (some []))]), (90000, .arr 1 6 z46 none false)], 2⟩)) ∧ p76_1 False fu  K0 (p76_2L False fu  K0  y1 y4 y7 s13 s17 j20 j21 j22 j23 j24 j34 j35 j36 j37 j38 y39 n1) z46 z47 s51 j52 j53 j54 j55 j56 j57 j58) (fun hc3 h L hL_1 => ?_) (fun hc3 h L hL_1 => ?_) ?_
                          · conv => cbv
                            refine call_h hO [.ref 2] (d_p65 fu O.len hN h) ?_
                            intro os Q hos hQ
                            conv => cbv
                            refine ⟨(by (rw [hos]) <;> (subst hO; rfl)), ?_⟩
                            intro r bs hq
                            rw [hQ] at hq
                            clear hos hQ h
                            obtain ⟨y59, y60, y61, y62, y63, y64, y65, ⟨rfl, rfl⟩, h⟩ := hq
                            conv => cbv
                            exact hL_1 _ _ ⟨y64, y65, y59, y60, y61, y62, y63, (.inl ⟨(by (conv => lhs; cbv) <;> (subst hO; rfl)), (by (conv => lhs; cbv) <;> (subst hO; rfl))⟩), h⟩
                          · conv => cbv
                            exact hL_1 _ _ ⟨y49, y50, 0, 0, ⟨#[]⟩, nilE, nilE, (.inr ⟨rfl, rfl, (by (conv => lhs; cbv) <;> (subst hO; rfl)), (by (conv => lhs; cbv) <;> (subst hO; rfl))⟩), h⟩
                          · rintro tm m ⟨j52, j53, j54, j55, j56, j57, j58, hs, h⟩
                            unfold p76_1 at h
                            rcases hs with hs | hs
                            · obtain ⟨rfl, rfl⟩ := hs
                              conv => cbv
                              refine view_h hO h (fun g => (by subst hO; exact g)) (fun h => ?_)
                              conv => cbv
                              refine ⟨(by subst hO; rfl), ?_⟩
                              refine and_h h (fun g => (by subst hO; exact g)) (fun h => ?_)
                              exact hLn1 n1 _ _ (Nat.lt_succ_self n1) ⟨j52, j53, (z46 ++ (List.take 1 [[(CV.v (.string s51)), (CV.v (.int .i64 j54)), (CV.v (.int .i64 j55)), (CV.v (.string j56)), (CV.sl 3 j57 none), (CV.sl 5 j58 none)]])), binStd .add .i64 z47 1, (.inr ⟨(by (conv => lhs; cbv) <;> (subst hO; rfl)), (by (conv => lhs; cbv) <;> (subst hO; rfl))⟩), h⟩
                            · obtain ⟨rfl, rfl, rfl, rfl⟩ := hs
                              conv => cbv
                              refine view_h hO h (fun g => (by subst hO; exact g)) (fun h => ?_)
                              conv => cbv
                              refine ⟨(by subst hO; rfl), ?_⟩
                              refine and_h h (fun g => (by subst hO; exact g)) (fun h => ?_)
                              exact hLn1 n1 _ _ (Nat.lt_succ_self n1) ⟨j52, j53, (z46 ++ (List.take 1 [[(CV.v (.string s51)), (CV.v (.int .i64 j54)), (CV.v (.int .i64 j55)), (CV.v (.string j56)), (CV.sl 3 nilE none), (CV.sl 5 nilE none)]])), binStd .add .i64 z47 1, (.inr ⟨(by (conv => lhs; cbv) <;> (subst hO; rfl)), (by (conv => lhs; cbv) <;> (subst hO; rfl))⟩), h⟩
                      · conv => cbv
                        refine view_full hO ?_
                        conv => cbv
                        rw [hQ]
                        exact ⟨y1, y4, y7, s13, s17, j20, j21, j22, j23, j24, j34, j35, j36, j37, j38, z46, z44, z45, ⟨(by subst hO; rfl), (by subst hO; rfl)⟩, h⟩
              · obtain ⟨rfl, rfl, rfl, rfl⟩ := hs
                conv => cbv
                refine call_h hO [.ref 2] (d_p91 fu O.len hN h) ?_
                intro os Q hos hQ
                conv => cbv
                refine ⟨(by (rw [hos]) <;> (subst hO; rfl)), ?_⟩
                intro r bs hq
                rw [hQ] at hq
                clear hos hQ h
                obtain ⟨y39, y40, y41, ⟨rfl, rfl⟩, h⟩ := hq
                conv => cbv
                refine br_join_h hO tiA h (by subst hO; rfl) [0, 2, 3, 5] [0, 3000, 4000] [] (fun tm m => ∃ (j42 : EL) (j43 : Int), ((tm = frame 0 93 [(0, .p 0 0 0), (2, .p 3000 1 0), (3, .p 4000 1 0), (5, .c (.v (.int .i64 y39)))] ∧ m = ⟨[(0, .blk 0 [.c (.sl 1 j42 none), .c (.v (.int .i64 j43))]), (3000, .blk 1 [.c (.v (.int .i64 0)), .c (.v (.int .i64 0)), .c (.v (.int .i64 0)), .c (.v (.string ⟨#[]⟩)), .c (.v (.string ⟨#[]⟩)), .c (.v (.int .i64 0)), .c (.v (.int .i64 0)), .c (.v (.string ⟨#[]⟩)), .c (.sl 3 [] (some [])), .c (.sl 5 [] (some [])), .c (.v (.int .i64 0)), .c (.v (.int .i64 0)), .c (.v (.string ⟨#[]⟩)), .c (.sl 3 [] (some [])), .c (.sl 5 [] (some [])), .c (.sl 6 [] (some []))]), (4000, .blk 1 [.c (.v (.int .i64 y1)), .c (.v (.int .i64 y4)), .c (.v (.int .i64 y7)), .c (.v (.string s13)), .c (.v (.string s17)), .c (.v (.int .i64 j20)), .c (.v (.int .i64 j21)), .c (.v (.string j22)), .c (.sl 3 j23 none), .c (.sl 5 j24 none), .c (.v (.int .i64 j34)), .c (.v (.int .i64 j35)), .c (.v (.string j36)), .c (.sl 3 [] (some [])), .c (.sl 5 [] (some [])), .c (.sl 6 [] (some []))])], 2⟩)) ∧ p76_3 False fu  K0 y1 y4 y7 s13 s17 j20 j21 j22 j23 j24 j34 j35 j36 nilE nilE y39 j42 j43) (fun hc4 h L hL_3 => ?_) (fun hc4 h L hL_3 => ?_) ?_
                · conv => cbv
                  refine call_h hO [.ref 2, .shut] (d_p94 fu O.len hN h) ?_
                  intro os Q hos hQ
                  conv => cbv
                  refine ⟨(by (rw [hos]) <;> (subst hO; rfl)), ?_⟩
                  intro r bs hq
                  rw [hQ] at hq
                  clear hos hQ h
                  obtain ⟨y66, y67, _, ⟨rfl, rfl⟩, h⟩ := hq
                  conv => cbv
                  exact hL_3 _ _ ⟨y66, y67, ⟨(by (conv => lhs; cbv) <;> (subst hO; rfl)), (by (conv => lhs; cbv) <;> (subst hO; rfl))⟩, h⟩
                · conv => cbv
                  exact hL_3 _ _ ⟨y40, y41, ⟨(by (conv => lhs; cbv) <;> (subst hO; rfl)), (by (conv => lhs; cbv) <;> (subst hO; rfl))⟩, h⟩
                · rintro tm m ⟨j42, j43, hs, h⟩
                  unfold p76_3 at h
                  obtain ⟨rfl, rfl⟩ := hs
                  conv => cbv
                  refine loop_of hO tiA [0, 2, 3, 64, 65] [0, 3000, 4000, 90000] [] (fun (n : Nat) tm m => ∃ (z44 : EL) (z45 : Int) (z46 : EL) (z47 : Int), ((z46 = [] ∧ tm = frame 0 93 [(0, .p 0 0 0), (2, .p 3000 1 0), (3, .p 4000 1 0), (64, .c (.v (.int .i64 y39))), (65, .c (.v (.int .i64 z47)))] ∧ m = ⟨[(0, .blk 0 [.c (.sl 1 z44 none), .c (.v (.int .i64 z45))]), (3000, .blk 1 [.c (.v (.int .i64 0)), .c (.v (.int .i64 0)), .c (.v (.int .i64 0)), .c (.v (.string ⟨#[]⟩)), .c (.v (.string ⟨#[]⟩)), .c (.v (.int .i64 0)), .c (.v (.int .i64 0)), .c (.v (.string ⟨#[]⟩)), .c (.sl 3 [] (some [])), .c (.sl 5 [] (some [])), .c (.v (.int .i64 0)), .c (.v (.int .i64 0)), .c (.v (.string ⟨#[]⟩)), .c (.sl 3 [] (some [])), .c (.sl 5 [] (some [])), .c (.sl 6 [] (some []))]), (4000, .blk 1 [.c (.v (.int .i64 y1)), .c (.v (.int .i64 y4)), .c (.v (.int .i64 y7)), .c (.v (.string s13)), .c (.v (.string s17)), .c (.v (.int .i64 j20)), .c (.v (.int .i64 j21)), .c (.v (.string j22)), .c (.sl 3 j23 none), .c (.sl 5 j24 none), .c (.v (.int .i64 j34)), .c (.v (.int .i64 j35)), .c (.v (.string j36)), .c (.sl 3 [] (some [])), .c (.sl 5 [] (some [])), .c (.sl 6 [] (some []))])], 2⟩) ∨ (tm = frame 0 93 [(0, .p 0 0 0), (2, .p 3000 1 0), (3, .p 4000 1 0), (64, .c (.v (.int .i64 y39))), (65, .c (.v (.int .i64 z47)))] ∧ m = ⟨[(0, .blk 0 [.c (.sl 1 z44 none), .c (.v (.int .i64 z45))]), (3000, .blk 1 [.c (.v (.int .i64 0)), .c (.v (.int .i64 0)), .c (.v (.int .i64 0)), .c (.v (.string ⟨#[]⟩)), .c (.v (.string ⟨#[]⟩)), .c (.v (.int .i64 0)), .c (.v (.int .i64 0)), .c (.v (.string ⟨#[]⟩)), .c (.sl 3 [] (some [])), .c (.sl 5 [] (some [])), .c (.v (.int .i64 0)), .c (.v (.int .i64 0)), .c (.v (.string ⟨#[]⟩)), .c (.sl 3 [] (some [])), .c (.sl 5 [] (some [])), .c (.sl 6 [] (some []))]), (4000, .blk 1 [.c (.v (.int .i64 y1)), .c (.v (.int .i64 y4)), .c (.v (.int .i64 y7)), .c (.v (.string s13)), .c (.v (.string s17)), .c (.v (.int .i64 j20)), .c (.v (.int .i64 j21)), .c (.v (.string j22)), .c (.sl 3 j23 none), .c (.sl 5 j24 none), .c (.v (.int .i64 j34)), .c (.v (.int .i64 j35)), .c (.v (.string j36)), .c (.sl 3 [] (some [])), .c (.sl 5 [] (some [])), .t 90000 1 (O.len z46)]), (90000, .arr 1 6 z46 none false)], 2⟩)) ∧ p76_2L False fu  K0 y1 y4 y7 s13 s17 j20 j21 j22 j23 j24 j34 j35 j36 nilE nilE y39 n z44 z45 z46 z47) (fun n => n) fu ⟨j42, j43, nilE, 0, (.inl ⟨rfl, (by (conv => lhs; cbv) <;> (subst hO; rfl)), (by (conv => lhs; cbv) <;> (subst hO; rfl))⟩), h⟩ ?_
                  rintro n1 tm m L ⟨z44, z45, z46, z47, hs, h⟩ hLn1
                  cases n1 with
                  | zero => rw [p76_2L] at h; exact h.elim
                  | succ n1 =>
                    rw [p76_2L] at h
                    unfold p76_2 at h
                    rcases hs with hs | hs
                    · obtain ⟨rfl, rfl, rfl⟩ := hs
                      conv => cbv
                      refine br_h hO h (by subst hO; rfl) (fun hc1 h => ?_) (fun hc1 h => ?_)
                      · conv => cbv
                        refine join_all hO ?_
                        conv => cbv
                        refine br_h hO h (by subst hO; rfl) (fun hc2 h => ?_) (fun hc2 h => ?_)
                        · conv => cbv
                          rw [hQ]
                          exact ⟨y1, y4, y7, s13, s17, j20, j21, j22, j23, j24, j34, j35, j36, nilE, nilE, nilE, z44, z45, ⟨(by subst hO; rfl), (by subst hO; rfl)⟩, h⟩
                        · conv => cbv
                          refine join_all hO ?_
                          conv => cbv
                          refine call_h hO [.ref 2, .shut] (d_p95 fu O.len hN h) ?_
                          intro os Q hos hQ
                          conv => cbv
                          refine ⟨(by (rw [hos]) <;> (subst hO; rfl)), ?_⟩
                          intro r bs hq
                          rw [hQ] at hq
                          clear hos hQ h
                          obtain ⟨y48, y49, y50, _, ⟨rfl, rfl⟩, h⟩ := hq
                          conv => cbv
                          refine tob_h hO h (by subst hO; rfl) (fun s51 h => ?_)
                          conv => cbv
                          refine br_join_h hO tiA h (by subst hO; rfl) [0, 2, 3, 6, 64, 65] [0, 3000, 4000, 7000] [] (fun tm m => ∃ (j52 : EL) (j53 : Int) (j54 : Int) (j55 : Int) (j56 : ByteArray) (j57 : EL) (j58 : EL), ((tm = frame 0 93 [(0, .p 0 0 0), (2, .p 3000 1 0), (3, .p 4000 1 0), (6, .p 7000 1 0), (64, .c (.v (.int .i64 y39))), (65, .c (.v (.int .i64 z47)))] ∧ m = ⟨[(0, .blk 0 [.c (.sl 1 j52 none), .c (.v (.int .i64 j53))]), (3000, .blk 1 [.c (.v (.int .i64 0)), .c (.v (.int .i64 0)), .c (.v (.int .i64 0)), .c (.v (.string ⟨#[]⟩)), .c (.v (.string ⟨#[]⟩)), .c (.v (.int .i64 0)), .c (.v (.int .i64 0)), .c (.v (.string ⟨#[]⟩)), .c (.sl 3 [] (some [])), .c (.sl 5 [] (some [])), .c (.v (.int .i64 0)), .c (.v (.int .i64 0)), .c (.v (.string ⟨#[]⟩)), .c (.sl 3 [] (some [])), .c (.sl 5 [] (some [])), .c (.sl 6 [] (some []))]), (4000, .blk 1 [.c (.v (.int .i64 y1)), .c (.v (.int .i64 y4)), .c (.v (.int .i64 y7)), .c (.v (.string s13)), .c (.v (.string s17)), .c (.v (.int .i64 j20)), .c (.v (.int .i64 j21)), .c (.v (.string j22)), .c (.sl 3 j23 none), .c (.sl 5 j24 none), .c (.v (.int .i64 j34)), .c (.v (.int .i64 j35)), .c (.v (.string j36)), .c (.sl 3 [] (some [])), .c (.sl 5 [] (some [])), .c (.sl 6 [] (some []))]), (7000, .blk 1 [.c (.v (.string s51)), .c (.v (.int .i64 j54)), .c (.v (.int .i64 j55)), .c (.v (.string j56)), .c (.sl 3 j57 none), .c (.sl 5 j58 none)])], 2⟩) ∨ (j57 = [] ∧ j58 = [] ∧ tm = frame 0 93 [(0, .p 0 0 0), (2, .p 3000 1 0), (3, .p 4000 1 0), (6, .p 7000 1 0), (64, .c (.v (.int .i64 y39))), (65, .c (.v (.int .i64 z47)))] ∧ m = ⟨[(0, .blk 0 [.c (.sl 1 j52 none), .c (.v (.int .i64 j53))]), (3000, .blk 1 [.c (.v (.int .i64 0)), .c (.v (.int .i64 0)), .c (.v (.int .i64 0)), .c (.v (.string ⟨#[]⟩)), .c (.v (.string ⟨#[]⟩)), .c (.v (.int .i64 0)), .c (.v (.int .i64 0)), .c (.v (.string ⟨#[]⟩)), .c (.sl 3 [] (some [])), .c (.sl 5 [] (some [])), .c (.v (.int .i64 0)), .c (.v (.int .i64 0)), .c (.v (.string ⟨#[]⟩)), .c (.sl 3 [] (some [])), .c (.sl 5 [] (some [])), .c (.sl 6 [] (some []))]), (4000, .blk 1 [.c (.v (.int .i64 y1)), .c (.v (.int .i64 y4)), .c (.v (.int .i64 y7)), .c (.v (.string s13)), .c (.v (.string s17)), .c (.v (.int .i64 j20)), .c (.v (.int .i64 j21)), .c (.v (.string j22)), .c (.sl 3 j23 none), .c (.sl 5 j24 none), .c (.v (.int .i64 j34)), .c (.v (.int .i64 j35)), .c (.v (.string j36)), .c (.sl 3 [] (some [])), .c (.sl 5 [] (some [])), .c (.sl 6 [] (some []))]), (7000, .blk 1 [.c (.v (.string s51)), .c (.v (.int .i64 j54)), .c (.v (.int .i64 j55)), .c (.v (.string j56)), .c (.sl 3 [] (some [])), .c (.sl 5 [] (some []))])], 2⟩)) ∧ p76_1 False fu  K0 (p76_2L False fu  K0  y1 y4 y7 s13 s17 j20 j21 j22 j23 j24 j34 j35 j36 nilE nilE y39 n1) nilE z47 s51 j52 j53 j54 j55 j56 j57 j58) (fun hc3 h L hL_1 => ?_) (fun hc3 h L hL_1 => ?_) ?_
                          · conv => cbv
                            refine call_h hO [.ref 2] (d_p65 fu O.len hN h) ?_
                            intro os Q hos hQ
                            conv => cbv
                            refine ⟨(by (rw [hos]) <;> (subst hO; rfl)), ?_⟩
                            intro r bs hq
                            rw [hQ] at hq
                            clear hos hQ h
                            obtain ⟨y59, y60, y61, y62, y63, y64, y65, ⟨rfl, rfl⟩, h⟩ := hq
                            conv => cbv
                            exact hL_1 _ _ ⟨y64, y65, y59, y60, y61, y62, y63, (.inl ⟨(by (conv => lhs; cbv) <;> (subst hO; rfl)), (by (conv => lhs; cbv) <;> (subst hO; rfl))⟩), h⟩
                          · conv => cbv
                            exact hL_1 _ _ ⟨y49, y50, 0, 0, ⟨#[]⟩, nilE, nilE, (.inr ⟨rfl, rfl, (by (conv => lhs; cbv) <;> (subst hO; rfl)), (by (conv => lhs; cbv) <;> (subst hO; rfl))⟩), h⟩
                          · rintro tm m ⟨j52, j53, j54, j55, j56, j57, j58, hs, h⟩
                            unfold p76_1 at h
                            rcases hs with hs | hs
                            · obtain ⟨rfl, rfl⟩ := hs
                              conv => cbv
                              refine view_h hO h (fun g => (by subst hO; exact g)) (fun h => ?_)
                              conv => cbv
                              refine and_h h (fun g => (by subst hO; exact g)) (fun h => ?_)
                              refine emp_no hO (by subst hO; exact List.cons_ne_nil _ _) ?_
                              conv => cbv
                              exact hLn1 n1 _ _ (Nat.lt_succ_self n1) ⟨j52, j53, (nilE ++ (List.take 1 [[(CV.v (.string s51)), (CV.v (.int .i64 j54)), (CV.v (.int .i64 j55)), (CV.v (.string j56)), (CV.sl 3 j57 none), (CV.sl 5 j58 none)]])), binStd .add .i64 z47 1, (.inr ⟨(by (conv => lhs; cbv) <;> (subst hO; rfl)), (by (conv => lhs; cbv) <;> (subst hO; rfl))⟩), h⟩
                            · obtain ⟨rfl, rfl, rfl, rfl⟩ := hs
                              conv => cbv
                              refine view_h hO h (fun g => (by subst hO; exact g)) (fun h => ?_)
                              conv => cbv
                              refine and_h h (fun g => (by subst hO; exact g)) (fun h => ?_)
                              refine emp_no hO (by subst hO; exact List.cons_ne_nil _ _) ?_
                              conv => cbv
                              exact hLn1 n1 _ _ (Nat.lt_succ_self n1) ⟨j52, j53, (nilE ++ (List.take 1 [[(CV.v (.string s51)), (CV.v (.int .i64 j54)), (CV.v (.int .i64 j55)), (CV.v (.string j56)), (CV.sl 3 nilE none), (CV.sl 5 nilE none)]])), binStd .add .i64 z47 1, (.inr ⟨(by (conv => lhs; cbv) <;> (subst hO; rfl)), (by (conv => lhs; cbv) <;> (subst hO; rfl))⟩), h⟩
                      · conv => cbv
                        rw [hQ]
                        exact ⟨y1, y4, y7, s13, s17, j20, j21, j22, j23, j24, j34, j35, j36, nilE, nilE, nilE, z44, z45, ⟨(by subst hO; rfl), (by subst hO; rfl)⟩, h⟩
                    · obtain ⟨rfl, rfl⟩ := hs
                      conv => cbv
                      refine br_h hO h (by subst hO; rfl) (fun hc1 h => ?_) (fun hc1 h => ?_)
                      · conv => cbv
                        refine join_all hO ?_
                        conv => cbv
                        refine br_h hO h (by subst hO; rfl) (fun hc2 h => ?_) (fun hc2 h => ?_)
                        · conv => cbv
                          refine view_full hO ?_
                          conv => cbv
                          rw [hQ]
                          exact ⟨y1, y4, y7, s13, s17, j20, j21, j22, j23, j24, j34, j35, j36, nilE, nilE, z46, z44, z45, ⟨(by subst hO; rfl), (by subst hO; rfl)⟩, h⟩
                        · conv => cbv
                          refine join_all hO ?_
                          conv => cbv
                          refine call_h hO [.ref 2, .shut] (d_p95 fu O.len hN h) ?_
                          intro os Q hos hQ
                          conv => cbv
                          refine ⟨(by (rw [hos]) <;> (subst hO; rfl)), ?_⟩
                          intro r bs hq
                          rw [hQ] at hq
                          clear hos hQ h
                          obtain ⟨y48, y49, y50, _, ⟨rfl, rfl⟩, h⟩ := hq
                          conv => cbv
                          refine tob_h hO h (by subst hO; rfl) (fun s51 h => ?_)
                          conv => cbv
                          refine br_join_h hO tiA h (by subst hO; rfl) [0, 2, 3, 6, 64, 65] [0, 3000, 4000, 7000, 90000] [] (fun tm m => ∃ (j52 : EL) (j53 : Int) (j54 : Int) (j55 : Int) (j56 : ByteArray) (j57 : EL) (j58 : EL), ((tm = frame 0 93 [(0, .p 0 0 0), (2, .p 3000 1 0), (3, .p 4000 1 0), (6, .p 7000 1 0), (64, .c (.v (.int .i64 y39))), (65, .c (.v (.int .i64 z47)))] ∧ m = ⟨[(0, .blk 0 [.c (.sl 1 j52 none), .c (.v (.int .i64 j53))]), (3000, .blk 1 [.c (.v (.int .i64 0)), .c (.v (.int .i64 0)), .c (.v (.int .i64 0)), .c (.v (.string ⟨#[]⟩)), .c (.v (.string ⟨#[]⟩)), .c (.v (.int .i64 0)), .c (.v (.int .i64 0)), .c (.v (.string ⟨#[]⟩)), .c (.sl 3 [] (some [])), .c (.sl 5 [] (some [])), .c (.v (.int .i64 0)), .c (.v (.int .i64 0)), .c (.v (.string ⟨#[]⟩)), .c (.sl 3 [] (some [])), .c (.sl 5 [] (some [])), .c (.sl 6 [] (some []))]), (4000, .blk 1 [.c (.v (.int .i64 y1)), .c (.v (.int .i64 y4)), .c (.v (.int .i64 y7)), .c (.v (.string s13)), .c (.v (.string s17)), .c (.v (.int .i64 j20)), .c (.v (.int .i64 j21)), .c (.v (.string j22)), .c (.sl 3 j23 none), .c (.sl 5 j24 none), .c (.v (.int .i64 j34)), .c (.v (.int .i64 j35)), .c (.v (.string j36)), .c (.sl 3 [] (some [])), .c (.sl 5 [] (some [])), .t 90000 1 (O.len z46)]), (7000, .blk 1 [.c (.v (.string s51)), .c (.v (.int .i64 j54)), .c (.v (.int .i64 j55)), .c (.v (.string j56)), .c (.sl 3 j57 none), .c (.sl 5 j58 none)]), (90000, .arr 1 6 z46 none false)], 2⟩) ∨ (j57 = [] ∧ j58 = [] ∧ tm = frame 0 93 [(0, .p 0 0 0), (2, .p 3000 1 0), (3, .p 4000 1 0), (6, .p 7000 1 0), (64, .c (.v (.int .i64 y39))), (65, .c (.v (.int .i64 z47)))] ∧ m = ⟨[(0, .blk 0 [.c (.sl 1 j52 none), .c (.v (.int .i64 j53))]), (3000, .blk 1 [.c (.v (.int .i64 0)), .c (.v (.int .i64 0)), .c (.v (.int .i64 0)), .c (.v (.string ⟨#[]⟩)), .c (.v (.string ⟨#[]⟩)), .c (.v (.int .i64 0)), .c (.v (.int .i64 0)), .c (.v (.string ⟨#[]⟩)), .c (.sl 3 [] (some [])), .c (.sl 5 [] (some [])), .c (.v (.int .i64 0)), .c (.v (.int .i64 0)), .c (.v (.string ⟨#[]⟩)), .c (.sl 3 [] (some [])), .c (.sl 5 [] (some [])), .c (.sl 6 [] (some []))]), (4000, .blk 1 [.c (.v (.int .i64 y1)), .c (.v (.int .i64 y4)), .c (.v (.int .i64 y7)), .c (.v (.string s13)), .c (.v (.string s17)), .c (.v (.int .i64 j20)), .c (.v (.int .i64 j21)), .c (.v (.string j22)), .c (.sl 3 j23 none), .c (.sl 5 j24 none), .c (.v (.int .i64 j34)), .c (.v (.int .i64 j35)), .c (.v (.string j36)), .c (.sl 3 [] (some [])), .c (.sl 5 [] (some [])), .t 90000 1 (O.len z46)]), (7000, .blk 1 [.c (.v (.string s51)), .c (.v (.int .i64 j54)), .c (.v (.int .i64 j55)), .c (.v (.string j56)), .c (.sl 3 [] (some [])), .c (.sl 5 [] (some []))]), (90000, .arr 1 6 z46 none false)], 2⟩)) ∧ p76_1 False fu  K0 (p76_2L False fu  K0  y1 y4 y7 s13 s17 j20 j21 j22 j23 j24 j34 j35 j36 nilE nilE y39 n1) z46 z47 s51 j52 j53 j54 j55 j56 j57 j58) (fun hc3 h L hL_1 => ?_) (fun hc3 h L hL_1 => ?_) ?_
                          · conv => cbv
                            refine call_h hO [.ref 2] (d_p65 fu O.len hN h) ?_
                            intro os Q hos hQ
                            conv => cbv
                            refine ⟨(by (rw [hos]) <;> (subst hO; rfl)), ?_⟩
                            intro r bs hq
                            rw [hQ] at hq
                            clear hos hQ h
                            obtain ⟨y59, y60, y61, y62, y63, y64, y65, ⟨rfl, rfl⟩, h⟩ := hq
                            conv => cbv
                            exact hL_1 _ _ ⟨y64, y65, y59, y60, y61, y62, y63, (.inl ⟨(by (conv => lhs; cbv) <;> (subst hO; rfl)), (by (conv => lhs; cbv) <;> (subst hO; rfl))⟩), h⟩
                          · conv => cbv
                            exact hL_1 _ _ ⟨y49, y50, 0, 0, ⟨#[]⟩, nilE, nilE, (.inr ⟨rfl, rfl, (by (conv => lhs; cbv) <;> (subst hO; rfl)), (by (conv => lhs; cbv) <;> (subst hO; rfl))⟩), h⟩
                          · rintro tm m ⟨j52, j53, j54, j55, j56, j57, j58, hs, h⟩
                            unfold p76_1 at h
                            rcases hs with hs | hs
                            · obtain ⟨rfl, rfl⟩ := hs
                              conv => cbv
                              refine view_h hO h (fun g => (by subst hO; exact g)) (fun h => ?_)
                              conv => cbv
                              refine ⟨(by subst hO; rfl), ?_⟩
                              refine and_h h (fun g => (by subst hO; exact g)) (fun h => ?_)
                              exact hLn1 n1 _ _ (Nat.lt_succ_self n1) ⟨j52, j53, (z46 ++ (List.take 1 [[(CV.v (.string s51)), (CV.v (.int .i64 j54)), (CV.v (.int .i64 j55)), (CV.v (.string j56)), (CV.sl 3 j57 none), (CV.sl 5 j58 none)]])), binStd .add .i64 z47 1, (.inr ⟨(by (conv => lhs; cbv) <;> (subst hO; rfl)), (by (conv => lhs; cbv) <;> (subst hO; rfl))⟩), h⟩
                            · obtain ⟨rfl, rfl, rfl, rfl⟩ := hs
                              conv => cbv
                              refine view_h hO h (fun g => (by subst hO; exact g)) (fun h => ?_)
                              conv => cbv
                              refine ⟨(by subst hO; rfl), ?_⟩
                              refine and_h h (fun g => (by subst hO; exact g)) (fun h => ?_)
                              exact hLn1 n1 _ _ (Nat.lt_succ_self n1) ⟨j52, j53, (z46 ++ (List.take 1 [[(CV.v (.string s51)), (CV.v (.int .i64 j54)), (CV.v (.int .i64 j55)), (CV.v (.string j56)), (CV.sl 3 nilE none), (CV.sl 5 nilE none)]])), binStd .add .i64 z47 1, (.inr ⟨(by (conv => lhs; cbv) <;> (subst hO; rfl)), (by (conv => lhs; cbv) <;> (subst hO; rfl))⟩), h⟩
                      · conv => cbv
                        refine view_full hO ?_
                        conv => cbv
                        rw [hQ]
                        exact ⟨y1, y4, y7, s13, s17, j20, j21, j22, j23, j24, j34, j35, j36, nilE, nilE, z46, z44, z45, ⟨(by subst hO; rfl), (by subst hO; rfl)⟩, h⟩
    · obtain ⟨rfl, rfl, rfl, rfl⟩ := hs
      conv => cbv
      refine call_h hO [.ref 2] (d_p116 fu O.len hN h) ?_
      intro os Q hos hQ
      conv => cbv
      refine ⟨(by (rw [hos]) <;> (subst hO; rfl)), ?_⟩
      intro r bs hq
      rw [hQ] at hq
      clear hos hQ h
      obtain ⟨y25, y26, y27, ⟨rfl, rfl⟩, h⟩ := hq
      conv => cbv
      refine reg_join hO tiA [0, 2, 3, 4, 43] [0, 3000, 4000] [] (fun tm m => ∃ (j28 : Bool), ((tm = frame 0 93 [(0, .p 0 0 0), (2, .p 3000 1 0), (3, .p 4000 1 0), (4, .c (.v (.int .u64 y25))), (43, .c (.v (.bool j28)))] ∧ m = ⟨[(0, .blk 0 [.c (.sl 1 y26 none), .c (.v (.int .i64 y27))]), (3000, .blk 1 [.c (.v (.int .i64 0)), .c (.v (.int .i64 0)), .c (.v (.int .i64 0)), .c (.v (.string ⟨#[]⟩)), .c (.v (.string ⟨#[]⟩)), .c (.v (.int .i64 0)), .c (.v (.int .i64 0)), .c (.v (.string ⟨#[]⟩)), .c (.sl 3 [] (some [])), .c (.sl 5 [] (some [])), .c (.v (.int .i64 0)), .c (.v (.int .i64 0)), .c (.v (.string ⟨#[]⟩)), .c (.sl 3 [] (some [])), .c (.sl 5 [] (some [])), .c (.sl 6 [] (some []))]), (4000, .blk 1 [.c (.v (.int .i64 y1)), .c (.v (.int .i64 y4)), .c (.v (.int .i64 y7)), .c (.v (.string s13)), .c (.v (.string s17)), .c (.v (.int .i64 j20)), .c (.v (.int .i64 j21)), .c (.v (.string j22)), .c (.sl 3 [] (some [])), .c (.sl 5 [] (some [])), .c (.v (.int .i64 0)), .c (.v (.int .i64 0)), .c (.v (.string ⟨#[]⟩)), .c (.sl 3 [] (some [])), .c (.sl 5 [] (some [])), .c (.sl 6 [] (some []))])], 2⟩)) ∧ p76_7 False fu  K0 y1 y4 y7 s13 s17 j20 j21 j22 nilE nilE y25 y26 y27 j28) (fun L hL_7 => ?_) ?_
      · conv => cbv
        refine br_h hO h (by subst hO; rfl) (fun hc8 h => ?_) (fun hc8 h => ?_)
        · conv => cbv
          refine br_t hO hc8 ?_
          conv => cbv
          refine br_t hO hc8 ?_
          conv => cbv
          refine br_t hO hc8 ?_
          conv => cbv
          refine br_t hO hc8 ?_
          conv => cbv
          refine br_t hO hc8 ?_
          conv => cbv
          refine br_t hO hc8 ?_
          conv => cbv
          exact hL_7 _ _ ⟨true, ⟨(by (conv => lhs; cbv) <;> (subst hO; rfl)), (by (conv => lhs; cbv) <;> (subst hO; rfl))⟩, h⟩
        · conv => cbv
          refine br_f hO hc8 ?_
          conv => cbv
          refine br_f hO hc8 ?_
          conv => cbv
          refine br_f hO hc8 ?_
          conv => cbv
          refine br_f hO hc8 ?_
          conv => cbv
          refine br_f hO hc8 ?_
          conv => cbv
          refine br_f hO hc8 ?_
          conv => cbv
          exact hL_7 _ _ ⟨(!((cmpStd .eql y25 1) == (cmpStd .eql y1 2))), ⟨(by (conv => lhs; cbv) <;> (subst hO; rfl)), (by (conv => lhs; cbv) <;> (subst hO; rfl))⟩, h⟩
      · rintro tm m ⟨j28, hs, h⟩
        unfold p76_7 at h
        obtain ⟨rfl, rfl⟩ := hs
        conv => cbv
        refine br_join_h hO tiA h (by subst hO; rfl) [0, 2, 3, 4] [0, 3000, 4000] [] (fun tm m => ∃ (j29 : EL) (j30 : Int), ((tm = frame 0 93 [(0, .p 0 0 0), (2, .p 3000 1 0), (3, .p 4000 1 0), (4, .c (.v (.int .u64 y25)))] ∧ m = ⟨[(0, .blk 0 [.c (.sl 1 j29 none), .c (.v (.int .i64 j30))]), (3000, .blk 1 [.c (.v (.int .i64 0)), .c (.v (.int .i64 0)), .c (.v (.int .i64 0)), .c (.v (.string ⟨#[]⟩)), .c (.v (.string ⟨#[]⟩)), .c (.v (.int .i64 0)), .c (.v (.int .i64 0)), .c (.v (.string ⟨#[]⟩)), .c (.sl 3 [] (some [])), .c (.sl 5 [] (some [])), .c (.v (.int .i64 0)), .c (.v (.int .i64 0)), .c (.v (.string ⟨#[]⟩)), .c (.sl 3 [] (some [])), .c (.sl 5 [] (some [])), .c (.sl 6 [] (some []))]), (4000, .blk 1 [.c (.v (.int .i64 y1)), .c (.v (.int .i64 y4)), .c (.v (.int .i64 y7)), .c (.v (.string s13)), .c (.v (.string s17)), .c (.v (.int .i64 j20)), .c (.v (.int .i64 j21)), .c (.v (.string j22)), .c (.sl 3 [] (some [])), .c (.sl 5 [] (some [])), .c (.v (.int .i64 0)), .c (.v (.int .i64 0)), .c (.v (.string ⟨#[]⟩)), .c (.sl 3 [] (some [])), .c (.sl 5 [] (some [])), .c (.sl 6 [] (some []))])], 2⟩)) ∧ p76_6 False fu  K0 y1 y4 y7 s13 s17 j20 j21 j22 nilE nilE y25 j29 j30) (fun hc7 h L hL_6 => ?_) (fun hc7 h L hL_6 => ?_) ?_
        · conv => cbv
          refine call_h hO [.ref 2, .shut] (d_p94 fu O.len hN h) ?_
          intro os Q hos hQ
          conv => cbv
          refine ⟨(by (rw [hos]) <;> (subst hO; rfl)), ?_⟩
          intro r bs hq
          rw [hQ] at hq
          clear hos hQ h
          obtain ⟨y75, y76, _, ⟨rfl, rfl⟩, h⟩ := hq
          conv => cbv
          exact hL_6 _ _ ⟨y75, y76, ⟨(by (conv => lhs; cbv) <;> (subst hO; rfl)), (by (conv => lhs; cbv) <;> (subst hO; rfl))⟩, h⟩
        · conv => cbv
          exact hL_6 _ _ ⟨y26, y27, ⟨(by (conv => lhs; cbv) <;> (subst hO; rfl)), (by (conv => lhs; cbv) <;> (subst hO; rfl))⟩, h⟩
        · rintro tm m ⟨j29, j30, hs, h⟩
          unfold p76_6 at h
          obtain ⟨rfl, rfl⟩ := hs
          conv => cbv
          refine reg_join hO tiA [0, 2, 3, 54] [0, 3000, 4000] [] (fun tm m => ∃ (j31 : Bool), ((tm = frame 0 93 [(0, .p 0 0 0), (2, .p 3000 1 0), (3, .p 4000 1 0), (54, .c (.v (.bool j31)))] ∧ m = ⟨[(0, .blk 0 [.c (.sl 1 j29 none), .c (.v (.int .i64 j30))]), (3000, .blk 1 [.c (.v (.int .i64 0)), .c (.v (.int .i64 0)), .c (.v (.int .i64 0)), .c (.v (.string ⟨#[]⟩)), .c (.v (.string ⟨#[]⟩)), .c (.v (.int .i64 0)), .c (.v (.int .i64 0)), .c (.v (.string ⟨#[]⟩)), .c (.sl 3 [] (some [])), .c (.sl 5 [] (some [])), .c (.v (.int .i64 0)), .c (.v (.int .i64 0)), .c (.v (.string ⟨#[]⟩)), .c (.sl 3 [] (some [])), .c (.sl 5 [] (some [])), .c (.sl 6 [] (some []))]), (4000, .blk 1 [.c (.v (.int .i64 y1)), .c (.v (.int .i64 y4)), .c (.v (.int .i64 y7)), .c (.v (.string s13)), .c (.v (.string s17)), .c (.v (.int .i64 j20)), .c (.v (.int .i64 j21)), .c (.v (.string j22)), .c (.sl 3 [] (some [])), .c (.sl 5 [] (some [])), .c (.v (.int .i64 0)), .c (.v (.int .i64 0)), .c (.v (.string ⟨#[]⟩)), .c (.sl 3 [] (some [])), .c (.sl 5 [] (some [])), .c (.sl 6 [] (some []))])], 2⟩)) ∧ p76_5 False fu  K0 y1 y4 y7 s13 s17 j20 j21 j22 nilE nilE j29 j30 j31) (fun L hL_5 => ?_) ?_
          · conv => cbv
            refine br_h hO h (by subst hO; rfl) (fun hc6 h => ?_) (fun hc6 h => ?_)
            · conv => cbv
              refine br_t hO hc6 ?_
              conv => cbv
              refine br_t hO hc6 ?_
              conv => cbv
              exact hL_5 _ _ ⟨(cmpStd .eql y25 1), ⟨(by (conv => lhs; cbv) <;> (subst hO; rfl)), (by (conv => lhs; cbv) <;> (subst hO; rfl))⟩, h⟩
            · conv => cbv
              refine br_f hO hc6 ?_
              conv => cbv
              refine br_f hO hc6 ?_
              conv => cbv
              exact hL_5 _ _ ⟨false, ⟨(by (conv => lhs; cbv) <;> (subst hO; rfl)), (by (conv => lhs; cbv) <;> (subst hO; rfl))⟩, h⟩
          · rintro tm m ⟨j31, hs, h⟩
            unfold p76_5 at h
            obtain ⟨rfl, rfl⟩ := hs
            conv => cbv
            refine br_join_h hO tiA h (by subst hO; rfl) [0, 2, 3] [0, 3000, 4000] [] (fun tm m => ∃ (j32 : EL) (j33 : Int) (j34 : Int) (j35 : Int) (j36 : ByteArray) (j37 : EL) (j38 : EL), ((tm = frame 0 93 [(0, .p 0 0 0), (2, .p 3000 1 0), (3, .p 4000 1 0)] ∧ m = ⟨[(0, .blk 0 [.c (.sl 1 j32 none), .c (.v (.int .i64 j33))]), (3000, .blk 1 [.c (.v (.int .i64 0)), .c (.v (.int .i64 0)), .c (.v (.int .i64 0)), .c (.v (.string ⟨#[]⟩)), .c (.v (.string ⟨#[]⟩)), .c (.v (.int .i64 0)), .c (.v (.int .i64 0)), .c (.v (.string ⟨#[]⟩)), .c (.sl 3 [] (some [])), .c (.sl 5 [] (some [])), .c (.v (.int .i64 0)), .c (.v (.int .i64 0)), .c (.v (.string ⟨#[]⟩)), .c (.sl 3 [] (some [])), .c (.sl 5 [] (some [])), .c (.sl 6 [] (some []))]), (4000, .blk 1 [.c (.v (.int .i64 y1)), .c (.v (.int .i64 y4)), .c (.v (.int .i64 y7)), .c (.v (.string s13)), .c (.v (.string s17)), .c (.v (.int .i64 j20)), .c (.v (.int .i64 j21)), .c (.v (.string j22)), .c (.sl 3 [] (some [])), .c (.sl 5 [] (some [])), .c (.v (.int .i64 j34)), .c (.v (.int .i64 j35)), .c (.v (.string j36)), .c (.sl 3 j37 none), .c (.sl 5 j38 none), .c (.sl 6 [] (some []))])], 2⟩) ∨ (j37 = [] ∧ j38 = [] ∧ tm = frame 0 93 [(0, .p 0 0 0), (2, .p 3000 1 0), (3, .p 4000 1 0)] ∧ m = ⟨[(0, .blk 0 [.c (.sl 1 j32 none), .c (.v (.int .i64 j33))]), (3000, .blk 1 [.c (.v (.int .i64 0)), .c (.v (.int .i64 0)), .c (.v (.int .i64 0)), .c (.v (.string ⟨#[]⟩)), .c (.v (.string ⟨#[]⟩)), .c (.v (.int .i64 0)), .c (.v (.int .i64 0)), .c (.v (.string ⟨#[]⟩)), .c (.sl 3 [] (some [])), .c (.sl 5 [] (some [])), .c (.v (.int .i64 0)), .c (.v (.int .i64 0)), .c (.v (.string ⟨#[]⟩)), .c (.sl 3 [] (some [])), .c (.sl 5 [] (some [])), .c (.sl 6 [] (some []))]), (4000, .blk 1 [.c (.v (.int .i64 y1)), .c (.v (.int .i64 y4)), .c (.v (.int .i64 y7)), .c (.v (.string s13)), .c (.v (.string s17)), .c (.v (.int .i64 j20)), .c (.v (.int .i64 j21)), .c (.v (.string j22)), .c (.sl 3 [] (some [])), .c (.sl 5 [] (some [])), .c (.v (.int .i64 j34)), .c (.v (.int .i64 j35)), .c (.v (.string j36)), .c (.sl 3 [] (some [])), .c (.sl 5 [] (some [])), .c (.sl 6 [] (some []))])], 2⟩)) ∧ p76_4 False fu  K0 y1 y4 y7 s13 s17 j20 j21 j22 nilE nilE j32 j33 j34 j35 j36 j37 j38) (fun hc5 h L hL_4 => ?_) (fun hc5 h L hL_4 => ?_) ?_
            · conv => cbv
              refine call_h hO [.ref 2] (d_p65 fu O.len hN h) ?_
              intro os Q hos hQ
              conv => cbv
              refine ⟨(by (rw [hos]) <;> (subst hO; rfl)), ?_⟩
              intro r bs hq
              rw [hQ] at hq
              clear hos hQ h
              obtain ⟨y68, y69, y70, y71, y72, y73, y74, ⟨rfl, rfl⟩, h⟩ := hq
              conv => cbv
              exact hL_4 _ _ ⟨y73, y74, y68, y69, y70, y71, y72, (.inl ⟨(by (conv => lhs; cbv) <;> (subst hO; rfl)), (by (conv => lhs; cbv) <;> (subst hO; rfl))⟩), h⟩
            · conv => cbv
              exact hL_4 _ _ ⟨j29, j30, 0, 0, ⟨#[]⟩, nilE, nilE, (.inr ⟨rfl, rfl, (by (conv => lhs; cbv) <;> (subst hO; rfl)), (by (conv => lhs; cbv) <;> (subst hO; rfl))⟩), h⟩
            · rintro tm m ⟨j32, j33, j34, j35, j36, j37, j38, hs, h⟩
              unfold p76_4 at h
              rcases hs with hs | hs
              · obtain ⟨rfl, rfl⟩ := hs
                conv => cbv
                refine call_h hO [.ref 2] (d_p91 fu O.len hN h) ?_
                intro os Q hos hQ
                conv => cbv
                refine ⟨(by (rw [hos]) <;> (subst hO; rfl)), ?_⟩
                intro r bs hq
                rw [hQ] at hq
                clear hos hQ h
                obtain ⟨y39, y40, y41, ⟨rfl, rfl⟩, h⟩ := hq
                conv => cbv
                refine br_join_h hO tiA h (by subst hO; rfl) [0, 2, 3, 5] [0, 3000, 4000] [] (fun tm m => ∃ (j42 : EL) (j43 : Int), ((tm = frame 0 93 [(0, .p 0 0 0), (2, .p 3000 1 0), (3, .p 4000 1 0), (5, .c (.v (.int .i64 y39)))] ∧ m = ⟨[(0, .blk 0 [.c (.sl 1 j42 none), .c (.v (.int .i64 j43))]), (3000, .blk 1 [.c (.v (.int .i64 0)), .c (.v (.int .i64 0)), .c (.v (.int .i64 0)), .c (.v (.string ⟨#[]⟩)), .c (.v (.string ⟨#[]⟩)), .c (.v (.int .i64 0)), .c (.v (.int .i64 0)), .c (.v (.string ⟨#[]⟩)), .c (.sl 3 [] (some [])), .c (.sl 5 [] (some [])), .c (.v (.int .i64 0)), .c (.v (.int .i64 0)), .c (.v (.string ⟨#[]⟩)), .c (.sl 3 [] (some [])), .c (.sl 5 [] (some [])), .c (.sl 6 [] (some []))]), (4000, .blk 1 [.c (.v (.int .i64 y1)), .c (.v (.int .i64 y4)), .c (.v (.int .i64 y7)), .c (.v (.string s13)), .c (.v (.string s17)), .c (.v (.int .i64 j20)), .c (.v (.int .i64 j21)), .c (.v (.string j22)), .c (.sl 3 [] (some [])), .c (.sl 5 [] (some [])), .c (.v (.int .i64 j34)), .c (.v (.int .i64 j35)), .c (.v (.string j36)), .c (.sl 3 j37 none), .c (.sl 5 j38 none), .c (.sl 6 [] (some []))])], 2⟩)) ∧ p76_3 False fu  K0 y1 y4 y7 s13 s17 j20 j21 j22 nilE nilE j34 j35 j36 j37 j38 y39 j42 j43) (fun hc4 h L hL_3 => ?_) (fun hc4 h L hL_3 => ?_) ?_
                · conv => cbv
                  refine call_h hO [.ref 2, .shut] (d_p94 fu O.len hN h) ?_
                  intro os Q hos hQ
                  conv => cbv
                  refine ⟨(by (rw [hos]) <;> (subst hO; rfl)), ?_⟩
                  intro r bs hq
                  rw [hQ] at hq
                  clear hos hQ h
                  obtain ⟨y66, y67, _, ⟨rfl, rfl⟩, h⟩ := hq
                  conv => cbv
                  exact hL_3 _ _ ⟨y66, y67, ⟨(by (conv => lhs; cbv) <;> (subst hO; rfl)), (by (conv => lhs; cbv) <;> (subst hO; rfl))⟩, h⟩
                · conv => cbv
                  exact hL_3 _ _ ⟨y40, y41, ⟨(by (conv => lhs; cbv) <;> (subst hO; rfl)), (by (conv => lhs; cbv) <;> (subst hO; rfl))⟩, h⟩
                · rintro tm m ⟨j42, j43, hs, h⟩
                  unfold p76_3 at h
                  obtain ⟨rfl, rfl⟩ := hs
                  conv => cbv
                  refine loop_of hO tiA [0, 2, 3, 64, 65] [0, 3000, 4000, 90000] [] (fun (n : Nat) tm m => ∃ (z44 : EL) (z45 : Int) (z46 : EL) (z47 : Int), ((z46 = [] ∧ tm = frame 0 93 [(0, .p 0 0 0), (2, .p 3000 1 0), (3, .p 4000 1 0), (64, .c (.v (.int .i64 y39))), (65, .c (.v (.int .i64 z47)))] ∧ m = ⟨[(0, .blk 0 [.c (.sl 1 z44 none), .c (.v (.int .i64 z45))]), (3000, .blk 1 [.c (.v (.int .i64 0)), .c (.v (.int .i64 0)), .c (.v (.int .i64 0)), .c (.v (.string ⟨#[]⟩)), .c (.v (.string ⟨#[]⟩)), .c (.v (.int .i64 0)), .c (.v (.int .i64 0)), .c (.v (.string ⟨#[]⟩)), .c (.sl 3 [] (some [])), .c (.sl 5 [] (some [])), .c (.v (.int .i64 0)), .c (.v (.int .i64 0)), .c (.v (.string ⟨#[]⟩)), .c (.sl 3 [] (some [])), .c (.sl 5 [] (some [])), .c (.sl 6 [] (some []))]), (4000, .blk 1 [.c (.v (.int .i64 y1)), .c (.v (.int .i64 y4)), .c (.v (.int .i64 y7)), .c (.v (.string s13)), .c (.v (.string s17)), .c (.v (.int .i64 j20)), .c (.v (.int .i64 j21)), .c (.v (.string j22)), .c (.sl 3 [] (some [])), .c (.sl 5 [] (some [])), .c (.v (.int .i64 j34)), .c (.v (.int .i64 j35)), .c (.v (.string j36)), .c (.sl 3 j37 none), .c (.sl 5 j38 none), .c (.sl 6 [] (some []))])], 2⟩) ∨ (tm = frame 0 93 [(0, .p 0 0 0), (2, .p 3000 1 0), (3, .p 4000 1 0), (64, .c (.v (.int .i64 y39))), (65, .c (.v (.int .i64 z47)))] ∧ m = ⟨[(0, .blk 0 [.c (.sl 1 z44 none), .c (.v (.int .i64 z45))]), (3000, .blk 1 [.c (.v (.int .i64 0)), .c (.v (.int .i64 0)), .c (.v (.int .i64 0)), .c (.v (.string ⟨#[]⟩)), .c (.v (.string ⟨#[]⟩)), .c (.v (.int .i64 0)), .c (.v (.int .i64 0)), .c (.v (.string ⟨#[]⟩)), .c (.sl 3 [] (some [])), .c (.sl 5 [] (some [])), .c (.v (.int .i64 0)), .c (.v (.int .i64 0)), .c (.v (.string ⟨#[]⟩)), .c (.sl 3 [] (some [])), .c (.sl 5 [] (some [])), .c (.sl 6 [] (some []))]), (4000, .blk 1 [.c (.v (.int .i64 y1)), .c (.v (.int .i64 y4)), .c (.v (.int .i64 y7)), .c (.v (.string s13)), .c (.v (.string s17)), .c (.v (.int .i64 j20)), .c (.v (.int .i64 j21)), .c (.v (.string j22)), .c (.sl 3 [] (some [])), .c (.sl 5 [] (some [])), .c (.v (.int .i64 j34)), .c (.v (.int .i64 j35)), .c (.v (.string j36)), .c (.sl 3 j37 none), .c (.sl 5 j38 none), .t 90000 1 (O.len z46)]), (90000, .arr 1 6 z46 none false)], 2⟩)) ∧ p76_2L False fu  K0 y1 y4 y7 s13 s17 j20 j21 j22 nilE nilE j34 j35 j36 j37 j38 y39 n z44 z45 z46 z47) (fun n => n) fu ⟨j42, j43, nilE, 0, (.inl ⟨rfl, (by (conv => lhs; cbv) <;> (subst hO; rfl)), (by (conv => lhs; cbv) <;> (subst hO; rfl))⟩), h⟩ ?_
                  rintro n1 tm m L ⟨z44, z45, z46, z47, hs, h⟩ hLn1
                  cases n1 with
                  | zero => rw [p76_2L] at h; exact h.elim
                  | succ n1 =>
                    rw [p76_2L] at h
                    unfold p76_2 at h
                    rcases hs with hs | hs
                    · obtain ⟨rfl, rfl, rfl⟩ := hs
                      conv => cbv
                      refine br_h hO h (by subst hO; rfl) (fun hc1 h => ?_) (fun hc1 h => ?_)
                      · conv => cbv
                        refine join_all hO ?_
                        conv => cbv
                        refine br_h hO h (by subst hO; rfl) (fun hc2 h => ?_) (fun hc2 h => ?_)
                        · conv => cbv
                          rw [hQ]
                          exact ⟨y1, y4, y7, s13, s17, j20, j21, j22, nilE, nilE, j34, j35, j36, j37, j38, nilE, z44, z45, ⟨(by subst hO; rfl), (by subst hO; rfl)⟩, h⟩
                        · conv => cbv
                          refine join_all hO ?_
                          conv => cbv
                          refine call_h hO [.ref 2, .shut] (d_p95 fu O.len hN h) ?_
                          intro os Q hos hQ
                          conv => cbv
                          refine ⟨(by (rw [hos]) <;> (subst hO; rfl)), ?_⟩
                          intro r bs hq
                          rw [hQ] at hq
                          clear hos hQ h
                          obtain ⟨y48, y49, y50, _, ⟨rfl, rfl⟩, h⟩ := hq
                          conv => cbv
                          refine tob_h hO h (by subst hO; rfl) (fun s51 h => ?_)
                          conv => cbv
                          refine br_join_h hO tiA h (by subst hO; rfl) [0, 2, 3, 6, 64, 65] [0, 3000, 4000, 7000] [] (fun tm m => ∃ (j52 : EL) (j53 : Int) (j54 : Int) (j55 : Int) (j56 : ByteArray) (j57 : EL) (j58 : EL), ((tm = frame 0 93 [(0, .p 0 0 0), (2, .p 3000 1 0), (3, .p 4000 1 0), (6, .p 7000 1 0), (64, .c (.v (.int .i64 y39))), (65, .c (.v (.int .i64 z47)))] ∧ m = ⟨[(0, .blk 0 [.c (.sl 1 j52 none), .c (.v (.int .i64 j53))]), (3000, .blk 1 [.c (.v (.int .i64 0)), .c (.v (.int .i64 0)), .c (.v (.int .i64 0)), .c (.v (.string ⟨#[]⟩)), .c (.v (.string ⟨#[]⟩)), .c (.v (.int .i64 0)), .c (.v (.int .i64 0)), .c (.v (.string ⟨#[]⟩)), .c (.sl 3 [] (some [])), .c (.sl 5 [] (some [])), .c (.v (.int .i64 0)), .c (.v (.int .i64 0)), .c (.v (.string ⟨#[]⟩)), .c (.sl 3 [] (some [])), .c (.sl 5 [] (some [])), .c (.sl 6 [] (some []))]), (4000, .blk 1 [.c (.v (.int .i64 y1)), .c (.v (.int .i64 y4)), .c (.v (.int .i64 y7)), .c (.v (.string s13)), .c (.v (.string s17)), .c (.v (.int .i64 j20)), .c (.v (.int .i64 j21)), .c (.v (.string j22)), .c (.sl 3 [] (some [])), .c (.sl 5 [] (some [])), .c (.v (.int .i64 j34)), .c (.v (.int .i64 j35)), .c (.v (.string j36)), .c (.sl 3 j37 none), .c (.sl 5 j38 none), .c (.sl 6 [] (some []))]), (7000, .blk 1 [.c (.v (.string s51)), .c (.v (.int .i64 j54)), .c (.v (.int .i64 j55)), .c (.v (.string j56)), .c (.sl 3 j57 none), .c (.sl 5 j58 none)])], 2⟩) ∨ (j57 = [] ∧ j58 = [] ∧ tm = frame 0 93 [(0, .p 0 0 0), (2, .p 3000 1 0), (3, .p 4000 1 0), (6, .p 7000 1 0), (64, .c (.v (.int .i64 y39))), (65, .c (.v (.int .i64 z47)))] ∧ m = ⟨[(0, .blk 0 [.c (.sl 1 j52 none), .c (.v (.int .i64 j53))]), (3000, .blk 1 [.c (.v (.int .i64 0)), .c (.v (.int .i64 0)), .c (.v (.int .i64 0)), .c (.v (.string ⟨#[]⟩)), .c (.v (.string ⟨#[]⟩)), .c (.v (.int .i64 0)), .c (.v (.int .i64 0)), .c (.v (.string ⟨#[]⟩)), .c (.sl 3 [] (some [])), .c (.sl 5 [] (some [])), .c (.v (.int .i64 0)), .c (.v (.int .i64 0)), .c (.v (.string ⟨#[]⟩)), .c (.sl 3 [] (some [])), .c (.sl 5 [] (some [])), .c (.sl 6 [] (some []))]), (4000, .blk 1 [.c (.v (.int .i64 y1)), .c (.v (.int .i64 y4)), .c (.v (.int .i64 y7)), .c (.v (.string s13)), .c (.v (.string s17)), .c (.v (.int .i64 j20)), .c (.v (.int .i64 j21)), .c (.v (.string j22)), .c (.sl 3 [] (some [])), .c (.sl 5 [] (some [])), .c (.v (.int .i64 j34)), .c (.v (.int .i64 j35)), .c (.v (.string j36)), .c (.sl 3 j37 none), .c (.sl 5 j38 none), .c (.sl 6 [] (some []))]), (7000, .blk 1 [.c (.v (.string s51)), .c (.v (.int .i64 j54)), .c (.v (.int .i64 j55)), .c (.v (.string j56)), .c (.sl 3 [] (some [])), .c (.sl 5 [] (some []))])], 2⟩)) ∧ p76_1 False fu  K0 (p76_2L False fu  K0  y1 y4 y7 s13 s17 j20 j21 j22 nilE nilE j34 j35 j36 j37 j38 y39 n1) nilE z47 s51 j52 j53 j54 j55 j56 j57 j58) (fun hc3 h L hL_1 => ?_) (fun hc3 h L hL_1 => ?_) ?_
                          · conv => cbv
                            refine call_h hO [.ref 2] (d_p65 fu O.len hN h) ?_
                            intro os Q hos hQ
                            conv => cbv
                            refine ⟨(by (rw [hos]) <;> (subst hO; rfl)), ?_⟩
                            intro r bs hq
                            rw [hQ] at hq
                            clear hos hQ h
                            obtain ⟨y59, y60, y61, y62, y63, y64, y65, ⟨rfl, rfl⟩, h⟩ := hq
                            conv => cbv
                            exact hL_1 _ _ ⟨y64, y65, y59, y60, y61, y62, y63, (.inl ⟨(by (conv => lhs; cbv) <;> (subst hO; rfl)), (by (conv => lhs; cbv) <;> (subst hO; rfl))⟩), h⟩
                          · conv => cbv
                            exact hL_1 _ _ ⟨y49, y50, 0, 0, ⟨#[]⟩, nilE, nilE, (.inr ⟨rfl, rfl, (by (conv => lhs; cbv) <;> (subst hO; rfl)), (by (conv => lhs; cbv) <;> (subst hO; rfl))⟩), h⟩
                          · rintro tm m ⟨j52, j53, j54, j55, j56, j57, j58, hs, h⟩
                            unfold p76_1 at h
                            rcases hs with hs | hs
                            · obtain ⟨rfl, rfl⟩ := hs
                              conv => cbv
                              refine view_h hO h (fun g => (by subst hO; exact g)) (fun h => ?_)
                              conv => cbv
                              refine and_h h (fun g => (by subst hO; exact g)) (fun h => ?_)
                              refine emp_no hO (by subst hO; exact List.cons_ne_nil _ _) ?_
                              conv => cbv
                              exact hLn1 n1 _ _ (Nat.lt_succ_self n1) ⟨j52, j53, (nilE ++ (List.take 1 [[(CV.v (.string s51)), (CV.v (.int .i64 j54)), (CV.v (.int .i64 j55)), (CV.v (.string j56)), (CV.sl 3 j57 none), (CV.sl 5 j58 none)]])), binStd .add .i64 z47 1, (.inr ⟨(by (conv => lhs; cbv) <;> (subst hO; rfl)), (by (conv => lhs; cbv) <;> (subst hO; rfl))⟩), h⟩
                            · obtain ⟨rfl, rfl, rfl, rfl⟩ := hs
                              conv => cbv
                              refine view_h hO h (fun g => (by subst hO; exact g)) (fun h => ?_)
                              conv => cbv
                              refine and_h h (fun g => (by subst hO; exact g)) (fun h => ?_)
                              refine emp_no hO (by subst hO; exact List.cons_ne_nil _ _) ?_
                              conv => cbv
                              exact hLn1 n1 _ _ (Nat.lt_succ_self n1) ⟨j52, j53, (nilE ++ (List.take 1 [[(CV.v (.string s51)), (CV.v (.int .i64 j54)), (CV.v (.int .i64 j55)), (CV.v (.string j56)), (CV.sl 3 nilE none), (CV.sl 5 nilE none)]])), binStd .add .i64 z47 1, (.inr ⟨(by (conv => lhs; cbv) <;> (subst hO; rfl)), (by (conv => lhs; cbv) <;> (subst hO; rfl))⟩), h⟩
                      · conv => cbv
                        rw [hQ]
                        exact ⟨y1, y4, y7, s13, s17, j20, j21, j22, nilE, nilE, j34, j35, j36, j37, j38, nilE, z44, z45, ⟨(by subst hO; rfl), (by subst hO; rfl)⟩, h⟩
                    · obtain ⟨rfl, rfl⟩ := hs
                      conv => cbv
                      refine br_h hO h (by subst hO; rfl) (fun hc1 h => ?_) (fun hc1 h => ?_)
                      · conv => cbv
                        refine join_all hO ?_
                        conv => cbv
                        refine br_h hO h (by subst hO; rfl) (fun hc2 h => ?_) (fun hc2 h => ?_)
                        · conv => cbv
                          refine view_full hO ?_
                          conv => cbv
                          rw [hQ]
                          exact ⟨y1, y4, y7, s13, s17, j20, j21, j22, nilE, nilE, j34, j35, j36, j37, j38, z46, z44, z45, ⟨(by subst hO; rfl), (by subst hO; rfl)⟩, h⟩
                        · conv => cbv
                          refine join_all hO ?_
                          conv => cbv
                          refine call_h hO [.ref 2, .shut] (d_p95 fu O.len hN h) ?_
                          intro os Q hos hQ
                          conv => cbv
                          refine ⟨(by (rw [hos]) <;> (subst hO; rfl)), ?_⟩
                          intro r bs hq
                          rw [hQ] at hq
                          clear hos hQ h
                          obtain ⟨y48, y49, y50, _, ⟨rfl, rfl⟩, h⟩ := hq
                          conv => cbv
                          refine tob_h hO h (by subst hO; rfl) (fun s51 h => ?_)
                          conv => cbv
                          refine br_join_h hO tiA h (by subst hO; rfl) [0, 2, 3, 6, 64, 65] [0, 3000, 4000, 7000, 90000] [] (fun tm m => ∃ (j52 : EL) (j53 : Int) (j54 : Int) (j55 : Int) (j56 : ByteArray) (j57 : EL) (j58 : EL), ((tm = frame 0 93 [(0, .p 0 0 0), (2, .p 3000 1 0), (3, .p 4000 1 0), (6, .p 7000 1 0), (64, .c (.v (.int .i64 y39))), (65, .c (.v (.int .i64 z47)))] ∧ m = ⟨[(0, .blk 0 [.c (.sl 1 j52 none), .c (.v (.int .i64 j53))]), (3000, .blk 1 [.c (.v (.int .i64 0)), .c (.v (.int .i64 0)), .c (.v (.int .i64 0)), .c (.v (.string ⟨#[]⟩)), .c (.v (.string ⟨#[]⟩)), .c (.v (.int .i64 0)), .c (.v (.int .i64 0)), .c (.v (.string ⟨#[]⟩)), .c (.sl 3 [] (some [])), .c (.sl 5 [] (some [])), .c (.v (.int .i64 0)), .c (.v (.int .i64 0)), .c (.v (.string ⟨#[]⟩)), .c (.sl 3 [] (some [])), .c (.sl 5 [] (some [])), .c (.sl 6 [] (some []))]), (4000, .blk 1 [.c (.v (.int .i64 y1)), .c (.v (.int .i64 y4)), .c (.v (.int .i64 y7)), .c (.v (.string s13)), .c (.v (.string s17)), .c (.v (.int .i64 j20)), .c (.v (.int .i64 j21)), .c (.v (.string j22)), .c (.sl 3 [] (some [])), .c (.sl 5 [] (some [])), .c (.v (.int .i64 j34)), .c (.v (.int .i64 j35)), .c (.v (.string j36)), .c (.sl 3 j37 none), .c (.sl 5 j38 none), .t 90000 1 (O.len z46)]), (7000, .blk 1 [.c (.v (.string s51)), .c (.v (.int .i64 j54)), .c (.v (.int .i64 j55)), .c (.v (.string j56)), .c (.sl 3 j57 none), .c (.sl 5 j58 none)]), (90000, .arr 1 6 z46 none false)], 2⟩) ∨ (j57 = [] ∧ j58 = [] ∧ tm = frame 0 93 [(0, .p 0 0 0), (2, .p 3000 1 0), (3, .p 4000 1 0), (6, .p 7000 1 0), (64, .c (.v (.int .i64 y39))), (65, .c (.v (.int .i64 z47)))] ∧ m = ⟨[(0, .blk 0 [.c (.sl 1 j52 none), .c (.v (.int .i64 j53))]), (3000, .blk 1 [.c (.v (.int .i64 0)), .c (.v (.int .i64 0)), .c (.v (.int .i64 0)), .c (.v (.string ⟨#[]⟩)), .c (.v (.string ⟨#[]⟩)), .c (.v (.int .i64 0)), .c (.v (.int .i64 0)), .c (.v (.string ⟨#[]⟩)), .c (.sl 3 [] (some [])), .c (.sl 5 [] (some [])), .c (.v (.int .i64 0)), .c (.v (.int .i64 0)), .c (.v (.string ⟨#[]⟩)), .c (.sl 3 [] (some [])), .c (.sl 5 [] (some [])), .c (.sl 6 [] (some []))]), (4000, .blk 1 [.c (.v (.int .i64 y1)), .c (.v (.int .i64 y4)), .c (.v (.int .i64 y7)), .c (.v (.string s13)), .c (.v (.string s17)), .c (.v (.int .i64 j20)), .c (.v (.int .i64 j21)), .c (.v (.string j22)), .c (.sl 3 [] (some [])), .c (.sl 5 [] (some [])), .c (.v (.int .i64 j34)), .c (.v (.int .i64 j35)), .c (.v (.string j36)), .c (.sl 3 j37 none), .c (.sl 5 j38 none), .t 90000 1 (O.len z46)]), (7000, .blk 1 [.c (.v (.string s51)), .c (.v (.int .i64 j54)), .c (.v (.int .i64 j55)), .c (.v (.string j56)), .c (.sl 3 [] (some [])), .c (.sl 5 [] (some []))]), (90000, .arr 1 6 z46 none false)], 2⟩)) ∧ p76_1 False fu  K0 (p76_2L False fu  K0  y1 y4 y7 s13 s17 j20 j21 j22 nilE nilE j34 j35 j36 j37 j38 y39 n1) z46 z47 s51 j52 j53 j54 j55 j56 j57 j58) (fun hc3 h L hL_1 => ?_) (fun hc3 h L hL_1 => ?_) ?_
                          · conv => cbv
                            refine call_h hO [.ref 2] (d_p65 fu O.len hN h) ?_
                            intro os Q hos hQ
                            conv => cbv
                            refine ⟨(by (rw [hos]) <;> (subst hO; rfl)), ?_⟩
                            intro r bs hq
                            rw [hQ] at hq
                            clear hos hQ h
                            obtain ⟨y59, y60, y61, y62, y63, y64, y65, ⟨rfl, rfl⟩, h⟩ := hq
                            conv => cbv
                            exact hL_1 _ _ ⟨y64, y65, y59, y60, y61, y62, y63, (.inl ⟨(by (conv => lhs; cbv) <;> (subst hO; rfl)), (by (conv => lhs; cbv) <;> (subst hO; rfl))⟩), h⟩
                          · conv => cbv
                            exact hL_1 _ _ ⟨y49, y50, 0, 0, ⟨#[]⟩, nilE, nilE, (.inr ⟨rfl, rfl, (by (conv => lhs; cbv) <;> (subst hO; rfl)), (by (conv => lhs; cbv) <;> (subst hO; rfl))⟩), h⟩
                          · rintro tm m ⟨j52, j53, j54, j55, j56, j57, j58, hs, h⟩
                            unfold p76_1 at h
                            rcases hs with hs | hs
                            · obtain ⟨rfl, rfl⟩ := hs
                              conv => cbv
                              refine view_h hO h (fun g => (by subst hO; exact g)) (fun h => ?_)
                              conv => cbv
                              refine ⟨(by subst hO; rfl), ?_⟩
                              refine and_h h (fun g => (by subst hO; exact g)) (fun h => ?_)
                              exact hLn1 n1 _ _ (Nat.lt_succ_self n1) ⟨j52, j53, (z46 ++ (List.take 1 [[(CV.v (.string s51)), (CV.v (.int .i64 j54)), (CV.v (.int .i64 j55)), (CV.v (.string j56)), (CV.sl 3 j57 none), (CV.sl 5 j58 none)]])), binStd .add .i64 z47 1, (.inr ⟨(by (conv => lhs; cbv) <;> (subst hO; rfl)), (by (conv => lhs; cbv) <;> (subst hO; rfl))⟩), h⟩
                            · obtain ⟨rfl, rfl, rfl, rfl⟩ := hs
                              conv => cbv
                              refine view_h hO h (fun g => (by subst hO; exact g)) (fun h => ?_)
                              conv => cbv
                              refine ⟨(by subst hO; rfl), ?_⟩
                              refine and_h h (fun g => (by subst hO; exact g)) (fun h => ?_)
                              exact hLn1 n1 _ _ (Nat.lt_succ_self n1) ⟨j52, j53, (z46 ++ (List.take 1 [[(CV.v (.string s51)), (CV.v (.int .i64 j54)), (CV.v (.int .i64 j55)), (CV.v (.string j56)), (CV.sl 3 nilE none), (CV.sl 5 nilE none)]])), binStd .add .i64 z47 1, (.inr ⟨(by (conv => lhs; cbv) <;> (subst hO; rfl)), (by (conv => lhs; cbv) <;> (subst hO; rfl))⟩), h⟩
                      · conv => cbv
                        refine view_full hO ?_
                        conv => cbv
                        rw [hQ]
                        exact ⟨y1, y4, y7, s13, s17, j20, j21, j22, nilE, nilE, j34, j35, j36, j37, j38, z46, z44, z45, ⟨(by subst hO; rfl), (by subst hO; rfl)⟩, h⟩
              · obtain ⟨rfl, rfl, rfl, rfl⟩ := hs
                conv => cbv
                refine call_h hO [.ref 2] (d_p91 fu O.len hN h) ?_
                intro os Q hos hQ
                conv => cbv
                refine ⟨(by (rw [hos]) <;> (subst hO; rfl)), ?_⟩
                intro r bs hq
                rw [hQ] at hq
                clear hos hQ h
                obtain ⟨y39, y40, y41, ⟨rfl, rfl⟩, h⟩ := hq
                conv => cbv
                refine br_join_h hO tiA h (by subst hO; rfl) [0, 2, 3, 5] [0, 3000, 4000] [] (fun tm m => ∃ (j42 : EL) (j43 : Int), ((tm = frame 0 93 [(0, .p 0 0 0), (2, .p 3000 1 0), (3, .p 4000 1 0), (5, .c (.v (.int .i64 y39)))] ∧ m = ⟨[(0, .blk 0 [.c (.sl 1 j42 none), .c (.v (.int .i64 j43))]), (3000, .blk 1 [.c (.v (.int .i64 0)), .c (.v (.int .i64 0)), .c (.v (.int .i64 0)), .c (.v (.string ⟨#[]⟩)), .c (.v (.string ⟨#[]⟩)), .c (.v (.int .i64 0)), .c (.v (.int .i64 0)), .c (.v (.string ⟨#[]⟩)), .c (.sl 3 [] (some [])), .c (.sl 5 [] (some [])), .c (.v (.int .i64 0)), .c (.v (.int .i64 0)), .c (.v (.string ⟨#[]⟩)), .c (.sl 3 [] (some [])), .c (.sl 5 [] (some [])), .c (.sl 6 [] (some []))]), (4000, .blk 1 [.c (.v (.int .i64 y1)), .c (.v (.int .i64 y4)), .c (.v (.int .i64 y7)), .c (.v (.string s13)), .c (.v (.string s17)), .c (.v (.int .i64 j20)), .c (.v (.int .i64 j21)), .c (.v (.string j22)), .c (.sl 3 [] (some [])), .c (.sl 5 [] (some [])), .c (.v (.int .i64 j34)), .c (.v (.int .i64 j35)), .c (.v (.string j36)), .c (.sl 3 [] (some [])), .c (.sl 5 [] (some [])), .c (.sl 6 [] (some []))])], 2⟩)) ∧ p76_3 False fu  K0 y1 y4 y7 s13 s17 j20 j21 j22 nilE nilE j34 j35 j36 nilE nilE y39 j42 j43) (fun hc4 h L hL_3 => ?_) (fun hc4 h L hL_3 => ?_) ?_
                · conv => cbv
                  refine call_h hO [.ref 2, .shut] (d_p94 fu O.len hN h) ?_
                  intro os Q hos hQ
                  conv => cbv
                  refine ⟨(by (rw [hos]) <;> (subst hO; rfl)), ?_⟩
                  intro r bs hq
                  rw [hQ] at hq
                  clear hos hQ h
                  obtain ⟨y66, y67, _, ⟨rfl, rfl⟩, h⟩ := hq
                  conv => cbv
                  exact hL_3 _ _ ⟨y66, y67, ⟨(by (conv => lhs; cbv) <;> (subst hO; rfl)), (by (conv => lhs; cbv) <;> (subst hO; rfl))⟩, h⟩
                · conv => cbv
                  exact hL_3 _ _ ⟨y40, y41, ⟨(by (conv => lhs; cbv) <;> (subst hO; rfl)), (by (conv => lhs; cbv) <;> (subst hO; rfl))⟩, h⟩
                · rintro tm m ⟨j42, j43, hs, h⟩
                  unfold p76_3 at h
                  obtain ⟨rfl, rfl⟩ := hs
                  conv => cbv
                  refine loop_of hO tiA [0, 2, 3, 64, 65] [0, 3000, 4000, 90000] [] (fun (n : Nat) tm m => ∃ (z44 : EL) (z45 : Int) (z46 : EL) (z47 : Int), ((z46 = [] ∧ tm = frame 0 93 [(0, .p 0 0 0), (2, .p 3000 1 0), (3, .p 4000 1 0), (64, .c (.v (.int .i64 y39))), (65, .c (.v (.int .i64 z47)))] ∧ m = ⟨[(0, .blk 0 [.c (.sl 1 z44 none), .c (.v (.int .i64 z45))]), (3000, .blk 1 [.c (.v (.int .i64 0)), .c (.v (.int .i64 0)), .c (.v (.int .i64 0)), .c (.v (.string ⟨#[]⟩)), .c (.v (.string ⟨#[]⟩)), .c (.v (.int .i64 0)), .c (.v (.int .i64 0)), .c (.v (.string ⟨#[]⟩)), .c (.sl 3 [] (some [])), .c (.sl 5 [] (some [])), .c (.v (.int .i64 0)), .c (.v (.int .i64 0)), .c (.v (.string ⟨#[]⟩)), .c (.sl 3 [] (some [])), .c (.sl 5 [] (some [])), .c (.sl 6 [] (some []))]), (4000, .blk 1 [.c (.v (.int .i64 y1)), .c (.v (.int .i64 y4)), .c (.v (.int .i64 y7)), .c (.v (.string s13)), .c (.v (.string s17)), .c (.v (.int .i64 j20)), .c (.v (.int .i64 j21)), .c (.v (.string j22)), .c (.sl 3 [] (some [])), .c (.sl 5 [] (some [])), .c (.v (.int .i64 j34)), .c (.v (.int .i64 j35)), .c (.v (.string j36)), .c (.sl 3 [] (some [])), .c (.sl 5 [] (some [])), .c (.sl 6 [] (some []))])], 2⟩) ∨ (tm = frame 0 93 [(0, .p 0 0 0), (2, .p 3000 1 0), (3, .p 4000 1 0), (64, .c (.v (.int .i64 y39))), (65, .c (.v (.int .i64 z47)))] ∧ m = ⟨[(0, .blk 0 [.c (.sl 1 z44 none), .c (.v (.int .i64 z45))]), (3000, .blk 1 [.c (.v (.int .i64 0)), .c (.v (.int .i64 0)), .c (.v (.int .i64 0)), .c (.v (.string ⟨#[]⟩)), .c (.v (.string ⟨#[]⟩)), .c (.v (.int .i64 0)), .c (.v (.int .i64 0)), .c (.v (.string ⟨#[]⟩)), .c (.sl 3 [] (some [])), .c (.sl 5 [] (some [])), .c (.v (.int .i64 0)), .c (.v (.int .i64 0)), .c (.v (.string ⟨#[]⟩)), .c (.sl 3 [] (some [])), .c (.sl 5 [] (some [])), .c (.sl 6 [] (some []))]), (4000, .blk 1 [.c (.v (.int .i64 y1)), .c (.v (.int .i64 y4)), .c (.v (.int .i64 y7)), .c (.v (.string s13)), .c (.v (.string s17)), .c (.v (.int .i64 j20)), .c (.v (.int .i64 j21)), .c (.v (.string j22)), .c (.sl 3 [] (some [])), .c (.sl 5 [] (some [])), .c (.v (.int .i64 j34)), .c (.v (.int .i64 j35)), .c (.v (.string j36)), .c (.sl 3 [] (some [])), .c (.sl 5 [] (some [])), .t 90000 1 (O.len z46)]), (90000, .arr 1 6 z46 none false)], 2⟩)) ∧ p76_2L False fu  K0 y1 y4 y7 s13 s17 j20 j21 j22 nilE nilE j34 j35 j36 nilE nilE y39 n z44 z45 z46 z47) (fun n => n) fu ⟨j42, j43, nilE, 0, (.inl ⟨rfl, (by (conv => lhs; cbv) <;> (subst hO; rfl)), (by (conv => lhs; cbv) <;> (subst hO; rfl))⟩), h⟩ ?_
                  rintro n1 tm m L ⟨z44, z45, z46, z47, hs, h⟩ hLn1
                  cases n1 with
                  | zero => rw [p76_2L] at h; exact h.elim
                  | succ n1 =>
                    rw [p76_2L] at h
                    unfold p76_2 at h
                    rcases hs with hs | hs
                    · obtain ⟨rfl, rfl, rfl⟩ := hs
                      conv => cbv
                      refine br_h hO h (by subst hO; rfl) (fun hc1 h => ?_) (fun hc1 h => ?_)
                      · conv => cbv
                        refine join_all hO ?_
                        conv => cbv
                        refine br_h hO h (by subst hO; rfl) (fun hc2 h => ?_) (fun hc2 h => ?_)
                        · conv => cbv
                          rw [hQ]
                          exact ⟨y1, y4, y7, s13, s17, j20, j21, j22, nilE, nilE, j34, j35, j36, nilE, nilE, nilE, z44, z45, ⟨(by subst hO; rfl), (by subst hO; rfl)⟩, h⟩
                        · conv => cbv
                          refine join_all hO ?_
                          conv => cbv
                          refine call_h hO [.ref 2, .shut] (d_p95 fu O.len hN h) ?_
                          intro os Q hos hQ
                          conv => cbv
                          refine ⟨(by (rw [hos]) <;> (subst hO; rfl)), ?_⟩
                          intro r bs hq
                          rw [hQ] at hq
                          clear hos hQ h
                          obtain ⟨y48, y49, y50, _, ⟨rfl, rfl⟩, h⟩ := hq
                          conv => cbv
                          refine tob_h hO h (by subst hO; rfl) (fun s51 h => ?_)
                          conv => cbv
                          refine br_join_h hO tiA h (by subst hO; rfl) [0, 2, 3, 6, 64, 65] [0, 3000, 4000, 7000] [] (fun tm m => ∃ (j52 : EL) (j53 : Int) (j54 : Int) (j55 : Int) (j56 : ByteArray) (j57 : EL) (j58 : EL), ((tm = frame 0 93 [(0, .p 0 0 0), (2, .p 3000 1 0), (3, .p 4000 1 0), (6, .p 7000 1 0), (64, .c (.v (.int .i64 y39))), (65, .c (.v (.int .i64 z47)))] ∧ m = ⟨[(0, .blk 0 [.c (.sl 1 j52 none), .c (.v (.int .i64 j53))]), (3000, .blk 1 [.c (.v (.int .i64 0)), .c (.v (.int .i64 0)), .c (.v (.int .i64 0)), .c (.v (.string ⟨#[]⟩)), .c (.v (.string ⟨#[]⟩)), .c (.v (.int .i64 0)), .c (.v (.int .i64 0)), .c (.v (.string ⟨#[]⟩)), .c (.sl 3 [] (some [])), .c (.sl 5 [] (some [])), .c (.v (.int .i64 0)), .c (.v (.int .i64 0)), .c (.v (.string ⟨#[]⟩)), .c (.sl 3 [] (some [])), .c (.sl 5 [] (some [])), .c (.sl 6 [] (some []))]), (4000, .blk 1 [.c (.v (.int .i64 y1)), .c (.v (.int .i64 y4)), .c (.v (.int .i64 y7)), .c (.v (.string s13)), .c (.v (.string s17)), .c (.v (.int .i64 j20)), .c (.v (.int .i64 j21)), .c (.v (.string j22)), .c (.sl 3 [] (some [])), .c (.sl 5 [] (some [])), .c (.v (.int .i64 j34)), .c (.v (.int .i64 j35)), .c (.v (.string j36)), .c (.sl 3 [] (some [])), .c (.sl 5 [] (some [])), .c (.sl 6 [] (some []))]), (7000, .blk 1 [.c (.v (.string s51)), .c (.v (.int .i64 j54)), .c (.v (.int .i64 j55)), .c (.v (.string j56)), .c (.sl 3 j57 none), .c (.sl 5 j58 none)])], 2⟩) ∨ (j57 = [] ∧ j58 = [] ∧ tm = frame 0 93 [(0, .p 0 0 0), (2, .p 3000 1 0), (3, .p 4000 1 0), (6, .p 7000 1 0), (64, .c (.v (.int .i64 y39))), (65, .c (.v (.int .i64 z47)))] ∧ m = ⟨[(0, .blk 0 [.c (.sl 1 j52 none), .c (.v (.int .i64 j53))]), (3000, .blk 1 [.c (.v (.int .i64 0)), .c (.v (.int .i64 0)), .c (.v (.int .i64 0)), .c (.v (.string ⟨#[]⟩)), .c (.v (.string ⟨#[]⟩)), .c (.v (.int .i64 0)), .c (.v (.int .i64 0)), .c (.v (.string ⟨#[]⟩)), .c (.sl 3 [] (some [])), .c (.sl 5 [] (some [])), .c (.v (.int .i64 0)), .c (.v (.int .i64 0)), .c (.v (.string ⟨#[]⟩)), .c (.sl 3 [] (some [])), .c (.sl 5 [] (some [])), .c (.sl 6 [] (some []))]), (4000, .blk 1 [.c (.v (.int .i64 y1)), .c (.v (.int .i64 y4)), .c (.v (.int .i64 y7)), .c (.v (.string s13)), .c (.v (.string s17)), .c (.v (.int .i64 j20)), .c (.v (.int .i64 j21)), .c (.v (.string j22)), .c (.sl 3 [] (some [])), .c (.sl 5 [] (some [])), .c (.v (.int .i64 j34)), .c (.v (.int .i64 j35)), .c (.v (.string j36)), .c (.sl 3 [] (some [])), .c (.sl 5 [] (some [])), .c (.sl 6 [] (some []))]), (7000, .blk 1 [.c (.v (.string s51)), .c (.v (.int .i64 j54)), .c (.v (.int .i64 j55)), .c (.v (.string j56)), .c (.sl 3 [] (some [])), .c (.sl 5 [] (some []))])], 2⟩)) ∧ p76_1 False fu  K0 (p76_2L False fu  K0  y1 y4 y7 s13 s17 j20 j21 j22 nilE nilE j34 j35 j36 nilE nilE y39 n1) nilE z47 s51 j52 j53 j54 j55 j56 j57 j58) (fun hc3 h L hL_1 => ?_) (fun hc3 h L hL_1 => ?_) ?_
                          · conv => cbv
                            refine call_h hO [.ref 2] (d_p65 fu O.len hN h) ?_
                            intro os Q hos hQ
                            conv => cbv
                            refine ⟨(by (rw [hos]) <;> (subst hO; rfl)), ?_⟩
                            intro r bs hq
                            rw [hQ] at hq
                            clear hos hQ h
                            obtain ⟨y59, y60, y61, y62, y63, y64, y65, ⟨rfl, rfl⟩, h⟩ := hq
                            conv => cbv
                            exact hL_1 _ _ ⟨y64, y65, y59, y60, y61, y62, y63, (.inl ⟨(by (conv => lhs; cbv) <;> (subst hO; rfl)), (by (conv => lhs; cbv) <;> (subst hO; rfl))⟩), h⟩
                          · conv => cbv
                            exact hL_1 _ _ ⟨y49, y50, 0, 0, ⟨#[]⟩, nilE, nilE, (.inr ⟨rfl, rfl, (by (conv => lhs; cbv) <;> (subst hO; rfl)), (by (conv => lhs; cbv) <;> (subst hO; rfl))⟩), h⟩
                          · rintro tm m ⟨j52, j53, j54, j55, j56, j57, j58, hs, h⟩
                            unfold p76_1 at h
                            rcases hs with hs | hs
                            · obtain ⟨rfl, rfl⟩ := hs
                              conv => cbv
                              refine view_h hO h (fun g => (by subst hO; exact g)) (fun h => ?_)
                              conv => cbv
                              refine and_h h (fun g => (by subst hO; exact g)) (fun h => ?_)
                              refine emp_no hO (by subst hO; exact List.cons_ne_nil _ _) ?_
                              conv => cbv
                              exact hLn1 n1 _ _ (Nat.lt_succ_self n1) ⟨j52, j53, (nilE ++ (List.take 1 [[(CV.v (.string s51)), (CV.v (.int .i64 j54)), (CV.v (.int .i64 j55)), (CV.v (.string j56)), (CV.sl 3 j57 none), (CV.sl 5 j58 none)]])), binStd .add .i64 z47 1, (.inr ⟨(by (conv => lhs; cbv) <;> (subst hO; rfl)), (by (conv => lhs; cbv) <;> (subst hO; rfl))⟩), h⟩
                            · obtain ⟨rfl, rfl, rfl, rfl⟩ := hs
                              conv => cbv
                              refine view_h hO h (fun g => (by subst hO; exact g)) (fun h => ?_)
                              conv => cbv
                              refine and_h h (fun g => (by subst hO; exact g)) (fun h => ?_)
                              refine emp_no hO (by subst hO; exact List.cons_ne_nil _ _) ?_
                              conv => cbv
                              exact hLn1 n1 _ _ (Nat.lt_succ_self n1) ⟨j52, j53, (nilE ++ (List.take 1 [[(CV.v (.string s51)), (CV.v (.int .i64 j54)), (CV.v (.int .i64 j55)), (CV.v (.string j56)), (CV.sl 3 nilE none), (CV.sl 5 nilE none)]])), binStd .add .i64 z47 1, (.inr ⟨(by (conv => lhs; cbv) <;> (subst hO; rfl)), (by (conv => lhs; cbv) <;> (subst hO; rfl))⟩), h⟩
                      · conv => cbv
                        rw [hQ]
                        exact ⟨y1, y4, y7, s13, s17, j20, j21, j22, nilE, nilE, j34, j35, j36, nilE, nilE, nilE, z44, z45, ⟨(by subst hO; rfl), (by subst hO; rfl)⟩, h⟩
                    · obtain ⟨rfl, rfl⟩ := hs
                      conv => cbv
                      refine br_h hO h (by subst hO; rfl) (fun hc1 h => ?_) (fun hc1 h => ?_)
                      · conv => cbv
                        refine join_all hO ?_
                        conv => cbv
                        refine br_h hO h (by subst hO; rfl) (fun hc2 h => ?_) (fun hc2 h => ?_)
                        · conv => cbv
                          refine view_full hO ?_
                          conv => cbv
                          rw [hQ]
                          exact ⟨y1, y4, y7, s13, s17, j20, j21, j22, nilE, nilE, j34, j35, j36, nilE, nilE, z46, z44, z45, ⟨(by subst hO; rfl), (by subst hO; rfl)⟩, h⟩
                        · conv => cbv
                          refine join_all hO ?_
                          conv => cbv
                          refine call_h hO [.ref 2, .shut] (d_p95 fu O.len hN h) ?_
                          intro os Q hos hQ
                          conv => cbv
                          refine ⟨(by (rw [hos]) <;> (subst hO; rfl)), ?_⟩
                          intro r bs hq
                          rw [hQ] at hq
                          clear hos hQ h
                          obtain ⟨y48, y49, y50, _, ⟨rfl, rfl⟩, h⟩ := hq
                          conv => cbv
                          refine tob_h hO h (by subst hO; rfl) (fun s51 h => ?_)
                          conv => cbv
                          refine br_join_h hO tiA h (by subst hO; rfl) [0, 2, 3, 6, 64, 65] [0, 3000, 4000, 7000, 90000] [] (fun tm m => ∃ (j52 : EL) (j53 : Int) (j54 : Int) (j55 : Int) (j56 : ByteArray) (j57 : EL) (j58 : EL), ((tm = frame 0 93 [(0, .p 0 0 0), (2, .p 3000 1 0), (3, .p 4000 1 0), (6, .p 7000 1 0), (64, .c (.v (.int .i64 y39))), (65, .c (.v (.int .i64 z47)))] ∧ m = ⟨[(0, .blk 0 [.c (.sl 1 j52 none), .c (.v (.int .i64 j53))]), (3000, .blk 1 [.c (.v (.int .i64 0)), .c (.v (.int .i64 0)), .c (.v (.int .i64 0)), .c (.v (.string ⟨#[]⟩)), .c (.v (.string ⟨#[]⟩)), .c (.v (.int .i64 0)), .c (.v (.int .i64 0)), .c (.v (.string ⟨#[]⟩)), .c (.sl 3 [] (some [])), .c (.sl 5 [] (some [])), .c (.v (.int .i64 0)), .c (.v (.int .i64 0)), .c (.v (.string ⟨#[]⟩)), .c (.sl 3 [] (some [])), .c (.sl 5 [] (some [])), .c (.sl 6 [] (some []))]), (4000, .blk 1 [.c (.v (.int .i64 y1)), .c (.v (.int .i64 y4)), .c (.v (.int .i64 y7)), .c (.v (.string s13)), .c (.v (.string s17)), .c (.v (.int .i64 j20)), .c (.v (.int .i64 j21)), .c (.v (.string j22)), .c (.sl 3 [] (some [])), .c (.sl 5 [] (some [])), .c (.v (.int .i64 j34)), .c (.v (.int .i64 j35)), .c (.v (.string j36)), .c (.sl 3 [] (some [])), .c (.sl 5 [] (some [])), .t 90000 1 (O.len z46)]), (7000, .blk 1 [.c (.v (.string s51)), .c (.v (.int .i64 j54)), .c (.v (.int .i64 j55)), .c (.v (.string j56)), .c (.sl 3 j57 none), .c (.sl 5 j58 none)]), (90000, .arr 1 6 z46 none false)], 2⟩) ∨ (j57 = [] ∧ j58 = [] ∧ tm = frame 0 93 [(0, .p 0 0 0), (2, .p 3000 1 0), (3, .p 4000 1 0), (6, .p 7000 1 0), (64, .c (.v (.int .i64 y39))), (65, .c (.v (.int .i64 z47)))] ∧ m = ⟨[(0, .blk 0 [.c (.sl 1 j52 none), .c (.v (.int .i64 j53))]), (3000, .blk 1 [.c (.v (.int .i64 0)), .c (.v (.int .i64 0)), .c (.v (.int .i64 0)), .c (.v (.string ⟨#[]⟩)), .c (.v (.string ⟨#[]⟩)), .c (.v (.int .i64 0)), .c (.v (.int .i64 0)), .c (.v (.string ⟨#[]⟩)), .c (.sl 3 [] (some [])), .c (.sl 5 [] (some [])), .c (.v (.int .i64 0)), .c (.v (.int .i64 0)), .c (.v (.string ⟨#[]⟩)), .c (.sl 3 [] (some [])), .c (.sl 5 [] (some [])), .c (.sl 6 [] (some []))]), (4000, .blk 1 [.c (.v (.int .i64 y1)), .c (.v (.int .i64 y4)), .c (.v (.int .i64 y7)), .c (.v (.string s13)), .c (.v (.string s17)), .c (.v (.int .i64 j20)), .c (.v (.int .i64 j21)), .c (.v (.string j22)), .c (.sl 3 [] (some [])), .c (.sl 5 [] (some [])), .c (.v (.int .i64 j34)), .c (.v (.int .i64 j35)), .c (.v (.string j36)), .c (.sl 3 [] (some [])), .c (.sl 5 [] (some [])), .t 90000 1 (O.len z46)]), (7000, .blk 1 [.c (.v (.string s51)), .c (.v (.int .i64 j54)), .c (.v (.int .i64 j55)), .c (.v (.string j56)), .c (.sl 3 [] (some [])), .c (.sl 5 [] (some []))]), (90000, .arr 1 6 z46 none false)], 2⟩)) ∧ p76_1 False fu  K0 (p76_2L False fu  K0  y1 y4 y7 s13 s17 j20 j21 j22 nilE nilE j34 j35 j36 nilE nilE y39 n1) z46 z47 s51 j52 j53 j54 j55 j56 j57 j58) (fun hc3 h L hL_1 => ?_) (fun hc3 h L hL_1 => ?_) ?_
                          · conv => cbv
                            refine call_h hO [.ref 2] (d_p65 fu O.len hN h) ?_
                            intro os Q hos hQ
                            conv => cbv
                            refine ⟨(by (rw [hos]) <;> (subst hO; rfl)), ?_⟩
                            intro r bs hq
                            rw [hQ] at hq
                            clear hos hQ h
                            obtain ⟨y59, y60, y61, y62, y63, y64, y65, ⟨rfl, rfl⟩, h⟩ := hq
                            conv => cbv
                            exact hL_1 _ _ ⟨y64, y65, y59, y60, y61, y62, y63, (.inl ⟨(by (conv => lhs; cbv) <;> (subst hO; rfl)), (by (conv => lhs; cbv) <;> (subst hO; rfl))⟩), h⟩
                          · conv => cbv
                            exact hL_1 _ _ ⟨y49, y50, 0, 0, ⟨#[]⟩, nilE, nilE, (.inr ⟨rfl, rfl, (by (conv => lhs; cbv) <;> (subst hO; rfl)), (by (conv => lhs; cbv) <;> (subst hO; rfl))⟩), h⟩
                          · rintro tm m ⟨j52, j53, j54, j55, j56, j57, j58, hs, h⟩
                            unfold p76_1 at h
                            rcases hs with hs | hs
                            · obtain ⟨rfl, rfl⟩ := hs
                              conv => cbv
                              refine view_h hO h (fun g => (by subst hO; exact g)) (fun h => ?_)
                              conv => cbv
                              refine ⟨(by subst hO; rfl), ?_⟩
                              refine and_h h (fun g => (by subst hO; exact g)) (fun h => ?_)
                              exact hLn1 n1 _ _ (Nat.lt_succ_self n1) ⟨j52, j53, (z46 ++ (List.take 1 [[(CV.v (.string s51)), (CV.v (.int .i64 j54)), (CV.v (.int .i64 j55)), (CV.v (.string j56)), (CV.sl 3 j57 none), (CV.sl 5 j58 none)]])), binStd .add .i64 z47 1, (.inr ⟨(by (conv => lhs; cbv) <;> (subst hO; rfl)), (by (conv => lhs; cbv) <;> (subst hO; rfl))⟩), h⟩
                            · obtain ⟨rfl, rfl, rfl, rfl⟩ := hs
                              conv => cbv
                              refine view_h hO h (fun g => (by subst hO; exact g)) (fun h => ?_)
                              conv => cbv
                              refine ⟨(by subst hO; rfl), ?_⟩
                              refine and_h h (fun g => (by subst hO; exact g)) (fun h => ?_)
                              exact hLn1 n1 _ _ (Nat.lt_succ_self n1) ⟨j52, j53, (z46 ++ (List.take 1 [[(CV.v (.string s51)), (CV.v (.int .i64 j54)), (CV.v (.int .i64 j55)), (CV.v (.string j56)), (CV.sl 3 nilE none), (CV.sl 5 nilE none)]])), binStd .add .i64 z47 1, (.inr ⟨(by (conv => lhs; cbv) <;> (subst hO; rfl)), (by (conv => lhs; cbv) <;> (subst hO; rfl))⟩), h⟩
                      · conv => cbv
                        refine view_full hO ?_
                        conv => cbv
                        rw [hQ]
                        exact ⟨y1, y4, y7, s13, s17, j20, j21, j22, nilE, nilE, j34, j35, j36, nilE, nilE, z46, z44, z45, ⟨(by subst hO; rfl), (by subst hO; rfl)⟩, h⟩
end Go.Proofs.Ythncmjlcmlmnmaa

