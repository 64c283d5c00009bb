/- Functions without memory, and that the Go functions are followed by them. Printed by gen.py. Conditions: none. -/
import Derived.Test.YthncmjlcmlmnmaaCR9
import Derived.Test.YthncmjlcmlmnmaaCR14
import Derived.Test.YthncmjlcmlmnmaaCR15
import Derived.Test.YthncmjlcmlmnmaaCR13
namespace Go.Proofs.Ythncmjlcmlmnmaa
open Go V
set_option maxRecDepth 100000
set_option maxHeartbeats 4000000
def p115_1 {ρ : Type} (fail : ρ) (fu : Nat) (s_p115 : (Int → Int → ByteArray → EL → EL → EL → Int → Int → Int → ρ) → EL → Int → Int → Int → Int → ρ) (K0 : Int → Int → ByteArray → EL → EL → EL → Int → Int → Int → ρ) (rec1 : EL → Int → Int → Int → EL → Int → ρ) (x3 : Int) (y7 : Int) (y11 : Int) (z15 : EL) (z16 : Int) (z17 : Int) (z18 : Int) (z19 : EL) (z20 : Int) (j21 : Bool) : ρ :=
  bif j21 then (s_p115 (fun y22 y23 y24 y25 y26 y27 y28 y29 y30 => gd (1 ≤ [[(CV.v (.int .i64 y22)), (CV.v (.int .i64 y23)), (CV.v (.string y24)), (CV.sl 3 y25 none), (CV.sl 5 y26 none)]].length) fail (gd ((z19.length + (List.take 1 [[(CV.v (.int .i64 y22)), (CV.v (.int .i64 y23)), (CV.v (.string y24)), (CV.sl 3 y25 none), (CV.sl 5 y26 none)]]).length) * 80 ≤ 35184372088832) fail (rec1 y27 y28 y29 y30 (z19 ++ (List.take 1 [[(CV.v (.int .i64 y22)), (CV.v (.int .i64 y23)), (CV.v (.string y24)), (CV.sl 3 y25 none), (CV.sl 5 y26 none)]])) (binStd .add .i64 z20 1)))) z15 z16 z17 (binStd .add .i64 x3 1) z18) else (K0 y7 y11 ⟨#[]⟩ nilE z19 z15 z16 z17 z18)
def p115_2 {ρ : Type} (fail : ρ) (fu : Nat) (s_p115 : (Int → Int → ByteArray → EL → EL → EL → Int → Int → Int → ρ) → EL → Int → Int → Int → Int → ρ) (K0 : Int → Int → ByteArray → EL → EL → EL → Int → Int → Int → ρ) (rec1 : EL → Int → Int → Int → EL → Int → ρ) (x3 : Int) (y7 : Int) (y11 : Int) (z15 : EL) (z16 : Int) (z17 : Int) (z18 : Int) (z19 : EL) (z20 : Int) : ρ :=
  p136 fail fu (fun y31 => bif (cmpStd .lss z20 y31) then (p115_1 fail fu s_p115 K0 rec1 x3 y7 y11 z15 z16 z17 z18 z19 z20 (cmpStd .eql z17 0)) else (p115_1 fail fu s_p115 K0 rec1 x3 y7 y11 z15 z16 z17 z18 z19 z20 false)) y7
def p115_2L {ρ : Type} (fail : ρ) (fu : Nat) (s_p115 : (Int → Int → ByteArray → EL → EL → EL → Int → Int → Int → ρ) → EL → Int → Int → Int → Int → ρ) (K0 : Int → Int → ByteArray → EL → EL → EL → Int → Int → Int → ρ)  (x3 : Int) (y7 : Int) (y11 : Int) : Nat → EL → Int → Int → Int → EL → Int → ρ
  | 0, _, _, _, _, _, _ => fail
  | n + 1, z15, z16, z17, z18, z19, z20 => p115_2 fail fu s_p115 K0 (p115_2L fail fu s_p115 K0  x3 y7 y11 n) x3 y7 y11 z15 z16 z17 z18 z19 z20
def p115_3 {ρ : Type} (fail : ρ) (fu : Nat) (s_p115 : (Int → Int → ByteArray → EL → EL → EL → Int → Int → Int → ρ) → EL → Int → Int → Int → Int → ρ) (K0 : Int → Int → ByteArray → EL → EL → EL → Int → Int → Int → ρ) (rec2 : EL → Int → Int → Int → EL → EL → Int → ρ) (x3 : Int) (y7 : Int) (z38 : EL) (z39 : Int) (z40 : Int) (z41 : Int) (z42 : EL) (z43 : EL) (z44 : Int) (j45 : Bool) : ρ :=
  bif j45 then (s_p115 (fun y46 y47 y48 y49 y50 y51 y52 y53 y54 => gd (1 ≤ [[(CV.v (.int .i64 y46)), (CV.v (.int .i64 y47)), (CV.v (.string y48)), (CV.sl 3 y49 none), (CV.sl 5 y50 none)]].length) fail (gd ((z43.length + (List.take 1 [[(CV.v (.int .i64 y46)), (CV.v (.int .i64 y47)), (CV.v (.string y48)), (CV.sl 3 y49 none), (CV.sl 5 y50 none)]]).length) * 80 ≤ 35184372088832) fail (rec2 y51 y52 y53 y54 z42 (z43 ++ (List.take 1 [[(CV.v (.int .i64 y46)), (CV.v (.int .i64 y47)), (CV.v (.string y48)), (CV.sl 3 y49 none), (CV.sl 5 y50 none)]])) (binStd .add .i64 z44 1)))) z38 z39 z40 (binStd .add .i64 x3 1) z41) else (gd (1 ≤ z42.length) fail (K0 y7 0 ⟨#[]⟩ (List.take 1 z42) z43 z38 z39 z40 z41))
def p115_4 {ρ : Type} (fail : ρ) (fu : Nat) (s_p115 : (Int → Int → ByteArray → EL → EL → EL → Int → Int → Int → ρ) → EL → Int → Int → Int → Int → ρ) (K0 : Int → Int → ByteArray → EL → EL → EL → Int → Int → Int → ρ) (rec2 : EL → Int → Int → Int → EL → EL → Int → ρ) (x3 : Int) (y7 : Int) (z38 : EL) (z39 : Int) (z40 : Int) (z41 : Int) (z42 : EL) (z43 : EL) (z44 : Int) : ρ :=
  p136 fail fu (fun y55 => bif (cmpStd .lss z44 y55) then (p115_3 fail fu s_p115 K0 rec2 x3 y7 z38 z39 z40 z41 z42 z43 z44 (cmpStd .eql z40 0)) else (p115_3 fail fu s_p115 K0 rec2 x3 y7 z38 z39 z40 z41 z42 z43 z44 false)) y7
def p115_4L {ρ : Type} (fail : ρ) (fu : Nat) (s_p115 : (Int → Int → ByteArray → EL → EL → EL → Int → Int → Int → ρ) → EL → Int → Int → Int → Int → ρ) (K0 : Int → Int → ByteArray → EL → EL → EL → Int → Int → Int → ρ)  (x3 : Int) (y7 : Int) : Nat → EL → Int → Int → Int → EL → EL → Int → ρ
  | 0, _, _, _, _, _, _, _ => fail
  | n + 1, z38, z39, z40, z41, z42, z43, z44 => p115_4 fail fu s_p115 K0 (p115_4L fail fu s_p115 K0  x3 y7 n) x3 y7 z38 z39 z40 z41 z42 z43 z44
def p115_5 {ρ : Type} (fail : ρ) (fu : Nat) (s_p115 : (Int → Int → ByteArray → EL → EL → EL → Int → Int → Int → ρ) → EL → Int → Int → Int → Int → ρ) (K0 : Int → Int → ByteArray → EL → EL → EL → Int → Int → Int → ρ) (rec3 : EL → Int → Int → Int → EL → Int → ρ) (x3 : Int) (y7 : Int) (j60 : ByteArray) (j61 : EL) (z62 : EL) (z63 : Int) (z64 : Int) (z65 : Int) (z66 : EL) (z67 : Int) (j68 : Bool) : ρ :=
  bif j68 then (s_p115 (fun y69 y70 y71 y72 y73 y74 y75 y76 y77 => gd (1 ≤ [[(CV.v (.int .i64 y69)), (CV.v (.int .i64 y70)), (CV.v (.string y71)), (CV.sl 3 y72 none), (CV.sl 5 y73 none)]].length) fail (gd ((z66.length + (List.take 1 [[(CV.v (.int .i64 y69)), (CV.v (.int .i64 y70)), (CV.v (.string y71)), (CV.sl 3 y72 none), (CV.sl 5 y73 none)]]).length) * 80 ≤ 35184372088832) fail (rec3 y74 y75 y76 y77 (z66 ++ (List.take 1 [[(CV.v (.int .i64 y69)), (CV.v (.int .i64 y70)), (CV.v (.string y71)), (CV.sl 3 y72 none), (CV.sl 5 y73 none)]])) (binStd .add .i64 z67 1)))) z62 z63 z64 (binStd .add .i64 x3 1) z65) else (K0 y7 0 j60 j61 z66 z62 z63 z64 z65)
def p115_6 {ρ : Type} (fail : ρ) (fu : Nat) (s_p115 : (Int → Int → ByteArray → EL → EL → EL → Int → Int → Int → ρ) → EL → Int → Int → Int → Int → ρ) (K0 : Int → Int → ByteArray → EL → EL → EL → Int → Int → Int → ρ) (rec3 : EL → Int → Int → Int → EL → Int → ρ) (x3 : Int) (y7 : Int) (j60 : ByteArray) (j61 : EL) (z62 : EL) (z63 : Int) (z64 : Int) (z65 : Int) (z66 : EL) (z67 : Int) : ρ :=
  p136 fail fu (fun y78 => bif (cmpStd .lss z67 y78) then (p115_5 fail fu s_p115 K0 rec3 x3 y7 j60 j61 z62 z63 z64 z65 z66 z67 (cmpStd .eql z64 0)) else (p115_5 fail fu s_p115 K0 rec3 x3 y7 j60 j61 z62 z63 z64 z65 z66 z67 false)) y7
def p115_6L {ρ : Type} (fail : ρ) (fu : Nat) (s_p115 : (Int → Int → ByteArray → EL → EL → EL → Int → Int → Int → ρ) → EL → Int → Int → Int → Int → ρ) (K0 : Int → Int → ByteArray → EL → EL → EL → Int → Int → Int → ρ)  (x3 : Int) (y7 : Int) (j60 : ByteArray) (j61 : EL) : Nat → EL → Int → Int → Int → EL → Int → ρ
  | 0, _, _, _, _, _, _ => fail
  | n + 1, z62, z63, z64, z65, z66, z67 => p115_6 fail fu s_p115 K0 (p115_6L fail fu s_p115 K0  x3 y7 j60 j61 n) x3 y7 j60 j61 z62 z63 z64 z65 z66 z67
def p115_7 {ρ : Type} (fail : ρ) (fu : Nat) (s_p115 : (Int → Int → ByteArray → EL → EL → EL → Int → Int → Int → ρ) → EL → Int → Int → Int → Int → ρ) (K0 : Int → Int → ByteArray → EL → EL → EL → Int → Int → Int → ρ)  (x3 : Int) (y7 : Int) (j56 : EL) (j57 : Int) (j58 : Int) (j59 : Int) (j60 : ByteArray) (j61 : EL) : ρ :=
  p115_6L fail fu s_p115 K0 x3 y7 j60 j61 fu j56 j57 j58 j59 nilE 0
def p115_8 {ρ : Type} (fail : ρ) (fu : Nat) (s_p115 : (Int → Int → ByteArray → EL → EL → EL → Int → Int → Int → ρ) → EL → Int → Int → Int → Int → ρ) (K0 : Int → Int → ByteArray → EL → EL → EL → Int → Int → Int → ρ) (rec4 : EL → Int → Int → EL → Int → ρ) (x3 : Int) (y7 : Int) (y79 : ByteArray) (j90 : Int) (z91 : EL) (z92 : Int) (z93 : Int) (z94 : EL) (z95 : Int) (j96 : Bool) : ρ :=
  bif j96 then (p74 fail fu (fun y97 y98 y99 y100 y101 y102 => gd (1 ≤ [[(CV.v (.int .i64 y97)), (CV.v (.int .i64 y98)), (CV.sl 3 y99 none)]].length) fail (gd ((z94.length + (List.take 1 [[(CV.v (.int .i64 y97)), (CV.v (.int .i64 y98)), (CV.sl 3 y99 none)]]).length) * 40 ≤ 35184372088832) fail (rec4 y100 y101 y102 (z94 ++ (List.take 1 [[(CV.v (.int .i64 y97)), (CV.v (.int .i64 y98)), (CV.sl 3 y99 none)]])) (binStd .add .i64 z95 1)))) z91 z92 z93) else (p115_7 fail fu s_p115 K0 x3 y7 z91 z92 z93 j90 y79 z94)
def p115_9 {ρ : Type} (fail : ρ) (fu : Nat) (s_p115 : (Int → Int → ByteArray → EL → EL → EL → Int → Int → Int → ρ) → EL → Int → Int → Int → Int → ρ) (K0 : Int → Int → ByteArray → EL → EL → EL → Int → Int → Int → ρ) (rec4 : EL → Int → Int → EL → Int → ρ) (x3 : Int) (y7 : Int) (y79 : ByteArray) (y83 : Int) (j90 : Int) (z91 : EL) (z92 : Int) (z93 : Int) (z94 : EL) (z95 : Int) : ρ :=
  bif (cmpStd .lss z95 y83) then (p115_8 fail fu s_p115 K0 rec4 x3 y7 y79 j90 z91 z92 z93 z94 z95 (cmpStd .eql z93 0)) else (p115_8 fail fu s_p115 K0 rec4 x3 y7 y79 j90 z91 z92 z93 z94 z95 false)
def p115_9L {ρ : Type} (fail : ρ) (fu : Nat) (s_p115 : (Int → Int → ByteArray → EL → EL → EL → Int → Int → Int → ρ) → EL → Int → Int → Int → Int → ρ) (K0 : Int → Int → ByteArray → EL → EL → EL → Int → Int → Int → ρ)  (x3 : Int) (y7 : Int) (y79 : ByteArray) (y83 : Int) (j90 : Int) : Nat → EL → Int → Int → EL → Int → ρ
  | 0, _, _, _, _, _ => fail
  | n + 1, z91, z92, z93, z94, z95 => p115_9 fail fu s_p115 K0 (p115_9L fail fu s_p115 K0  x3 y7 y79 y83 j90 n) x3 y7 y79 y83 j90 z91 z92 z93 z94 z95
def p115_10 {ρ : Type} (fail : ρ) (fu : Nat) (s_p115 : (Int → Int → ByteArray → EL → EL → EL → Int → Int → Int → ρ) → EL → Int → Int → Int → Int → ρ) (K0 : Int → Int → ByteArray → EL → EL → EL → Int → Int → Int → ρ)  (x3 : Int) (y7 : Int) (y79 : ByteArray) (y83 : Int) (j87 : EL) (j88 : Int) (j89 : Int) (j90 : Int) : ρ :=
  p115_9L fail fu s_p115 K0 x3 y7 y79 y83 j90 fu j87 j88 j89 nilE 0
def p115_11 {ρ : Type} (fail : ρ) (fu : Nat) (s_p115 : (Int → Int → ByteArray → EL → EL → EL → Int → Int → Int → ρ) → EL → Int → Int → Int → Int → ρ) (K0 : Int → Int → ByteArray → EL → EL → EL → Int → Int → Int → ρ)  (x3 : Int) (x4 : Int) (j4 : EL) (j5 : Int) (j6 : Int) : ρ :=
  p117 fail fu (fun y7 y8 y9 y10 => bif (cmpStd .neq y10 0) then (K0 y7 0 ⟨#[]⟩ nilE nilE y8 y9 y10 (binStd .sub .i64 x4 1)) else (bif (cmpStd .eql y7 0) then (p96 fail fu (fun y11 y12 y13 y14 => p115_2L fail fu s_p115 K0 x3 y7 y11 fu y12 y13 y14 (binStd .sub .i64 x4 1) nilE 0) y8 y9 y10) else (bif (cmpStd .eql y7 1) then (p74 fail fu (fun y32 y33 y34 y35 y36 y37 => p115_4L fail fu s_p115 K0 x3 y7 fu y35 y36 y37 (binStd .sub .i64 x4 1) [[(CV.v (.int .i64 y32)), (CV.v (.int .i64 y33)), (CV.sl 3 y34 none)]] nilE 0) y8 y9 y10) else (bif (cmpStd .eql y7 2) then (p98 fail fu (fun y79 y80 y81 y82 => p96 fail fu (fun y83 y84 y85 y86 => bif (cmpStd .gtr y83 4) then (p118 fail fu (fun y103 y104 y105 => p115_10 fail fu s_p115 K0 x3 y7 y79 y83 y103 y104 y105 (binStd .sub .i64 x4 1)) y84 y85 y86 7) else (p115_10 fail fu s_p115 K0 x3 y7 y79 y83 y84 y85 y86 (binStd .sub .i64 x4 1))) y80 y81 y82) y8 y9 y10) else (p115_7 fail fu s_p115 K0 x3 y7 y8 y9 y10 (binStd .sub .i64 x4 1) ⟨#[]⟩ nilE))))) j4 j5 j6 0 6
def p115_12 {ρ : Type} (fail : ρ) (fu : Nat) (s_p115 : (Int → Int → ByteArray → EL → EL → EL → Int → Int → Int → ρ) → EL → Int → Int → Int → Int → ρ) (K0 : Int → Int → ByteArray → EL → EL → EL → Int → Int → Int → ρ)  (x3 : Int) (x4 : Int) (j1 : EL) (j2 : Int) (j3 : Int) : ρ :=
  bif (cmpStd .gtr x3 100) then (p118 fail fu (fun y106 y107 y108 => p115_11 fail fu s_p115 K0 x3 x4 y106 y107 y108) j1 j2 j3 6) else (p115_11 fail fu s_p115 K0 x3 x4 j1 j2 j3)
/-- (*ref6.Reader).term -/
def p115_b {ρ : Type} (fail : ρ) (fu : Nat) (s_p115 : (Int → Int → ByteArray → EL → EL → EL → Int → Int → Int → ρ) → EL → Int → Int → Int → Int → ρ) (K0 : Int → Int → ByteArray → EL → EL → EL → Int → Int → Int → ρ) (x0 : EL) (x1 : Int) (x2 : Int) (x3 : Int) (x4 : Int) : ρ :=
  bif (cmpStd .eql x4 0) then (p118 fail fu (fun y109 y110 y111 => p115_12 fail fu s_p115 K0 x3 x4 y109 y110 y111) x0 x1 x2 3) else (p115_12 fail fu s_p115 K0 x3 x4 x0 x1 x2)
def p115 {ρ : Type} (fail : ρ) : Nat → (Int → Int → ByteArray → EL → EL → EL → Int → Int → Int → ρ) → EL → Int → Int → Int → Int → ρ
  | 0, _, _, _, _, _, _ => fail
  | n + 1, K0, x0, x1, x2, x3, x4 => p115_b fail n (p115 fail n) K0 x0 x1 x2 x3 x4
def D_p115 (fu : Nat) : Prop := ∀ {K0 : Int → Int → ByteArray → EL → EL → EL → Int → Int → Int → Prop} (L : EL → Nat) (_ : L = List.length) {x0 : EL} {x1 : Int} {x2 : Int} {x3 : Int} {x4 : Int} (_ : p115 False fu K0 x0 x1 x2 x3 x4), Den Try.prog G0 115 [.ptr [.c (.sl 1 x0 none), .c (.v (.int .i64 x1)), .c (.v (.int .i64 x2))], .c (.v (.int .i64 x3)), .ptr [.c (.v (.int .i64 x4))]] (fun r bs => (∃ (y0 : Int) (y1 : Int) (y2 : ByteArray) (y3 : EL) (y4 : EL) (y5 : EL) (y6 : Int) (y7 : Int) (y8 : Int) (o1 : OV), (r = .agg [.c (.v (.int .i64 y0)), .c (.v (.int .i64 y1)), .c (.v (.string y2)), .c (.sl 3 y3 none), .c (.sl 5 y4 none)] ∧ bs = [.ptr [.c (.sl 1 y5 none), .c (.v (.int .i64 y6)), .c (.v (.int .i64 y7))], o1, .ptr [.c (.v (.int .i64 y8))]]) ∧ K0 y0 y1 y2 y3 y4 y5 y6 y7 y8))
theorem b_p115 (fu : Nat) (ih_p115 : D_p115 fu) {K0 : Int → Int → ByteArray → EL → EL → EL → Int → Int → Int → Prop} (L : EL → Nat) (hN : L = List.length) {x0 : EL} {x1 : Int} {x2 : Int} {x3 : Int} {x4 : Int} (h : p115_b False fu (p115 False fu) K0 x0 x1 x2 x3 x4) : Den Try.prog G0 115 [.ptr [.c (.sl 1 x0 none), .c (.v (.int .i64 x1)), .c (.v (.int .i64 x2))], .c (.v (.int .i64 x3)), .ptr [.c (.v (.int .i64 x4))]] (fun r bs => (∃ (y0 : Int) (y1 : Int) (y2 : ByteArray) (y3 : EL) (y4 : EL) (y5 : EL) (y6 : Int) (y7 : Int) (y8 : Int) (o1 : OV), (r = .agg [.c (.v (.int .i64 y0)), .c (.v (.int .i64 y1)), .c (.v (.string y2)), .c (.sl 3 y3 none), .c (.sl 5 y4 none)] ∧ bs = [.ptr [.c (.sl 1 y5 none), .c (.v (.int .i64 y6)), .c (.v (.int .i64 y7))], o1, .ptr [.c (.v (.int .i64 y8))]]) ∧ K0 y0 y1 y2 y3 y4 y5 y6 y7 y8)) := by
  obtain ⟨O, hO⟩ : ∃ O, O = std 2 T G0 (Den Try.prog G0) := ⟨_, rfl⟩
  have hLO : L = O.len := by rw [hN, hO]; rfl
  subst hLO
  refine den_h hO tiA mixed tabOk (fn := Try.f115) (sh := true) (by kernel_rfl) rfl rfl rfl rfl ?_
  intro Q hQ
  unfold p115_b at h
  conv => cbv
  refine br_join_h hO tiA h (by subst hO; rfl) [0, 1, 2, 6] [0, 1, 7000] [] (fun tm m => ∃ (j1 : EL) (j2 : Int) (j3 : Int), ((tm = frame 0 104 [(0, .p 0 0 0), (1, .c (.v (.int .i64 x3))), (2, .p 1 1 0), (6, .p 7000 2 0)] ∧ m = ⟨[(0, .blk 0 [.c (.sl 1 j1 none), .c (.v (.int .i64 j2)), .c (.v (.int .i64 j3))]), (1, .blk 1 [.c (.v (.int .i64 x4))]), (7000, .blk 2 [.c (.v (.int .i64 0)), .c (.v (.int .i64 0)), .c (.v (.string ⟨#[]⟩)), .c (.sl 3 [] (some [])), .c (.sl 5 [] (some []))])], 3⟩)) ∧ p115_12 False fu (p115 False fu) K0 x3 x4 j1 j2 j3) (fun hc15 h L hL_12 => ?_) (fun hc15 h L hL_12 => ?_) ?_
  · conv => cbv
    refine call_h hO [.ref 3, .shut] (d_p118 fu O.len hN h) ?_
    intro os Q hos hQ
    conv => cbv
    refine ⟨(by (rw [hos]) <;> (subst hO; rfl)), ?_⟩
    intro r bs hq
    rw [hQ] at hq
    clear hos hQ h
    obtain ⟨y109, y110, y111, _, ⟨rfl, rfl⟩, h⟩ := hq
    conv => cbv
    exact hL_12 _ _ ⟨y109, y110, y111, ⟨(by (conv => lhs; cbv) <;> (subst hO; rfl)), (by (conv => lhs; cbv) <;> (subst hO; rfl))⟩, h⟩
  · conv => cbv
    exact hL_12 _ _ ⟨x0, x1, x2, ⟨(by (conv => lhs; cbv) <;> (subst hO; rfl)), (by (conv => lhs; cbv) <;> (subst hO; rfl))⟩, h⟩
  · rintro tm m ⟨j1, j2, j3, hs, h⟩
    unfold p115_12 at h
    obtain ⟨rfl, rfl⟩ := hs
    conv => cbv
    refine br_join_h hO tiA h (by subst hO; rfl) [0, 1, 2, 6] [0, 1, 7000] [] (fun tm m => ∃ (j4 : EL) (j5 : Int) (j6 : Int), ((tm = frame 0 104 [(0, .p 0 0 0), (1, .c (.v (.int .i64 x3))), (2, .p 1 1 0), (6, .p 7000 2 0)] ∧ m = ⟨[(0, .blk 0 [.c (.sl 1 j4 none), .c (.v (.int .i64 j5)), .c (.v (.int .i64 j6))]), (1, .blk 1 [.c (.v (.int .i64 x4))]), (7000, .blk 2 [.c (.v (.int .i64 0)), .c (.v (.int .i64 0)), .c (.v (.string ⟨#[]⟩)), .c (.sl 3 [] (some [])), .c (.sl 5 [] (some []))])], 3⟩)) ∧ p115_11 False fu (p115 False fu) K0 x3 x4 j4 j5 j6) (fun hc14 h L hL_11 => ?_) (fun hc14 h L hL_11 => ?_) ?_
    · conv => cbv
      refine call_h hO [.ref 3, .shut] (d_p118 fu O.len hN h) ?_
      intro os Q hos hQ
      conv => cbv
      refine ⟨(by (rw [hos]) <;> (subst hO; rfl)), ?_⟩
      intro r bs hq
      rw [hQ] at hq
      clear hos hQ h
      obtain ⟨y106, y107, y108, _, ⟨rfl, rfl⟩, h⟩ := hq
      conv => cbv
      exact hL_11 _ _ ⟨y106, y107, y108, ⟨(by (conv => lhs; cbv) <;> (subst hO; rfl)), (by (conv => lhs; cbv) <;> (subst hO; rfl))⟩, h⟩
    · conv => cbv
      exact hL_11 _ _ ⟨j1, j2, j3, ⟨(by (conv => lhs; cbv) <;> (subst hO; rfl)), (by (conv => lhs; cbv) <;> (subst hO; rfl))⟩, h⟩
    · rintro tm m ⟨j4, j5, j6, hs, h⟩
      unfold p115_11 at h
      obtain ⟨rfl, rfl⟩ := hs
      conv => cbv
      refine call_h hO [.ref 3, .shut, .shut] (d_p117 fu O.len hN h) ?_
      intro os Q hos hQ
      conv => cbv
      refine ⟨(by (rw [hos]) <;> (subst hO; rfl)), ?_⟩
      intro r bs hq
      rw [hQ] at hq
      clear hos hQ h
      obtain ⟨y7, y8, y9, y10, _, _, ⟨rfl, rfl⟩, h⟩ := hq
      conv => cbv
      refine br_h hO h (by subst hO; rfl) (fun hc1 h => ?_) (fun hc1 h => ?_)
      · conv => cbv
        rw [hQ]
        exact ⟨y7, 0, ⟨#[]⟩, nilE, nilE, y8, y9, y10, binStd .sub .i64 x4 1, _, ⟨(by subst hO; rfl), (by subst hO; rfl)⟩, h⟩
      · conv => cbv
        refine join_all hO ?_
        conv => cbv
        refine br_h hO h (by subst hO; rfl) (fun hc2 h => ?_) (fun hc2 h => ?_)
        · conv => cbv
          refine call_h hO [.ref 3] (d_p96 fu O.len hN h) ?_
          intro os Q hos hQ
          conv => cbv
          refine ⟨(by (rw [hos]) <;> (subst hO; rfl)), ?_⟩
          intro r bs hq
          rw [hQ] at hq
          clear hos hQ h
          obtain ⟨y11, y12, y13, y14, ⟨rfl, rfl⟩, h⟩ := hq
          conv => cbv
          refine join_all hO ?_
          conv => cbv
          refine loop_of hO tiA [0, 1, 2, 6, 7, 10] [0, 1, 7000, 8000, 102000] [] (fun (n : Nat) tm m => ∃ (z15 : EL) (z16 : Int) (z17 : Int) (z18 : Int) (z19 : EL) (z20 : Int), ((z19 = [] ∧ tm = frame 0 104 [(0, .p 0 0 0), (1, .c (.v (.int .i64 x3))), (2, .p 1 1 0), (6, .p 7000 2 0), (7, .p 8000 2 0), (10, .c (.v (.int .i64 z20)))] ∧ m = ⟨[(0, .blk 0 [.c (.sl 1 z15 none), .c (.v (.int .i64 z16)), .c (.v (.int .i64 z17))]), (1, .blk 1 [.c (.v (.int .i64 z18))]), (7000, .blk 2 [.c (.v (.int .i64 0)), .c (.v (.int .i64 0)), .c (.v (.string ⟨#[]⟩)), .c (.sl 3 [] (some [])), .c (.sl 5 [] (some []))]), (8000, .blk 2 [.c (.v (.int .i64 y7)), .c (.v (.int .i64 y11)), .c (.v (.string ⟨#[]⟩)), .c (.sl 3 [] (some [])), .c (.sl 5 [] (some []))])], 3⟩) ∨ (tm = frame 0 104 [(0, .p 0 0 0), (1, .c (.v (.int .i64 x3))), (2, .p 1 1 0), (6, .p 7000 2 0), (7, .p 8000 2 0), (10, .c (.v (.int .i64 z20)))] ∧ m = ⟨[(0, .blk 0 [.c (.sl 1 z15 none), .c (.v (.int .i64 z16)), .c (.v (.int .i64 z17))]), (1, .blk 1 [.c (.v (.int .i64 z18))]), (7000, .blk 2 [.c (.v (.int .i64 0)), .c (.v (.int .i64 0)), .c (.v (.string ⟨#[]⟩)), .c (.sl 3 [] (some [])), .c (.sl 5 [] (some []))]), (8000, .blk 2 [.c (.v (.int .i64 y7)), .c (.v (.int .i64 y11)), .c (.v (.string ⟨#[]⟩)), .c (.sl 3 [] (some [])), .t 102000 2 (O.len z19)]), (102000, .arr 2 5 z19 none false)], 3⟩)) ∧ p115_2L False fu (p115 False fu) K0 x3 y7 y11 n z15 z16 z17 z18 z19 z20) (fun n => n) fu ⟨y12, y13, y14, binStd .sub .i64 x4 1, nilE, 0, (.inl ⟨rfl, (by (conv => lhs; cbv) <;> (subst hO; rfl)), (by (conv => lhs; cbv) <;> (subst hO; rfl))⟩), h⟩ ?_
          rintro n1 tm m L ⟨z15, z16, z17, z18, z19, z20, hs, h⟩ hLn1
          cases n1 with
          | zero => rw [p115_2L] at h; exact h.elim
          | succ n1 =>
            rw [p115_2L] at h
            unfold p115_2 at h
            rcases hs with hs | hs
            · obtain ⟨rfl, rfl, rfl⟩ := hs
              conv => cbv
              refine reg_join hO tiA [0, 1, 2, 6, 7, 10, 90] [0, 1, 7000, 8000] [] (fun tm m => ∃ (j21 : Bool), ((tm = frame 0 104 [(0, .p 0 0 0), (1, .c (.v (.int .i64 x3))), (2, .p 1 1 0), (6, .p 7000 2 0), (7, .p 8000 2 0), (10, .c (.v (.int .i64 z20))), (90, .c (.v (.bool j21)))] ∧ m = ⟨[(0, .blk 0 [.c (.sl 1 z15 none), .c (.v (.int .i64 z16)), .c (.v (.int .i64 z17))]), (1, .blk 1 [.c (.v (.int .i64 z18))]), (7000, .blk 2 [.c (.v (.int .i64 0)), .c (.v (.int .i64 0)), .c (.v (.string ⟨#[]⟩)), .c (.sl 3 [] (some [])), .c (.sl 5 [] (some []))]), (8000, .blk 2 [.c (.v (.int .i64 y7)), .c (.v (.int .i64 y11)), .c (.v (.string ⟨#[]⟩)), .c (.sl 3 [] (some [])), .c (.sl 5 [] (some []))])], 3⟩)) ∧ p115_1 False fu (p115 False fu) K0 (p115_2L False fu (p115 False fu) K0  x3 y7 y11 n1) x3 y7 y11 z15 z16 z17 z18 nilE z20 j21) (fun L hL_1 => ?_) ?_
              · conv => cbv
                refine call_h hO [.shut] (d_p136 fu O.len hN h) ?_
                intro os Q hos hQ
                conv => cbv
                refine ⟨(by (rw [hos]) <;> (subst hO; rfl)), ?_⟩
                intro r bs hq
                rw [hQ] at hq
                clear hos hQ h
                obtain ⟨y31, _, ⟨rfl, rfl⟩, h⟩ := hq
                conv => cbv
                refine br_h hO h (by subst hO; rfl) (fun hc4 h => ?_) (fun hc4 h => ?_)
                · conv => cbv
                  refine br_t hO hc4 ?_
                  conv => cbv
                  refine br_t hO hc4 ?_
                  conv => cbv
                  refine br_t hO hc4 ?_
                  conv => cbv
                  refine br_t hO hc4 ?_
                  conv => cbv
                  refine br_t hO hc4 ?_
                  conv => cbv
                  exact hL_1 _ _ ⟨(cmpStd .eql z17 0), ⟨(by (conv => lhs; cbv) <;> (subst hO; rfl)), (by (conv => lhs; cbv) <;> (subst hO; rfl))⟩, h⟩
                · conv => cbv
                  refine br_f hO hc4 ?_
                  conv => cbv
                  refine br_f hO hc4 ?_
                  conv => cbv
                  refine br_f hO hc4 ?_
                  conv => cbv
                  refine br_f hO hc4 ?_
                  conv => cbv
                  refine br_f hO hc4 ?_
                  conv => cbv
                  exact hL_1 _ _ ⟨false, ⟨(by (conv => lhs; cbv) <;> (subst hO; rfl)), (by (conv => lhs; cbv) <;> (subst hO; rfl))⟩, h⟩
              · rintro tm m ⟨j21, hs, h⟩
                unfold p115_1 at h
                obtain ⟨rfl, rfl⟩ := hs
                conv => cbv
                refine br_h hO h (by subst hO; rfl) (fun hc3 h => ?_) (fun hc3 h => ?_)
                · conv => cbv
                  refine join_all hO ?_
                  conv => cbv
                  refine drawn_of hO tiA [[0, 1], [], [], [], []] [(0, true, false), (1, true, false), (2, true, false), (3, true, false), (4, true, false), (5, true, false), (6, false, false), (7, false, false), (8, false, true), (9, true, true), (10, false, true)] (by kernel_rfl) ?_
                  conv => cbv
                  refine call_h hO [.ref 3, .shut, .ref 1] (ih_p115 O.len hN h) ?_
                  intro os Q hos hQ
                  conv => cbv
                  refine ⟨(by (rw [hos]) <;> (subst hO; rfl)), ?_⟩
                  intro r bs hq
                  rw [hQ] at hq
                  clear hos hQ h
                  obtain ⟨y22, y23, y24, y25, y26, y27, y28, y29, y30, _, ⟨rfl, rfl⟩, h⟩ := hq
                  conv => cbv
                  refine ⟨agree_of hO (Nat.le_of_ble_eq_true rfl) rfl, ?_⟩
                  refine ⟨agree_of hO (Nat.le_of_ble_eq_true rfl) rfl, ?_⟩
                  refine view_h hO h (fun g => (by subst hO; exact g)) (fun h => ?_)
                  conv => cbv
                  refine and_h h (fun g => (by subst hO; exact g)) (fun h => ?_)
                  refine emp_no hO (by subst hO; exact List.cons_ne_nil _ _) ?_
                  conv => cbv
                  refine join_all hO ?_
                  conv => cbv
                  exact hLn1 n1 _ _ (Nat.lt_succ_self n1) ⟨y27, y28, y29, y30, (nilE ++ (List.take 1 [[(CV.v (.int .i64 y22)), (CV.v (.int .i64 y23)), (CV.v (.string y24)), (CV.sl 3 y25 none), (CV.sl 5 y26 none)]])), binStd .add .i64 z20 1, (.inr ⟨(by (conv => lhs; cbv) <;> (subst hO; rfl)), (by (conv => lhs; cbv) <;> (subst hO; rfl))⟩), h⟩
                · conv => cbv
                  rw [hQ]
                  exact ⟨y7, y11, ⟨#[]⟩, nilE, nilE, z15, z16, z17, z18, _, ⟨(by subst hO; rfl), (by subst hO; rfl)⟩, h⟩
            · obtain ⟨rfl, rfl⟩ := hs
              conv => cbv
              refine reg_join hO tiA [0, 1, 2, 6, 7, 10, 90] [0, 1, 7000, 8000, 102000] [] (fun tm m => ∃ (j21 : Bool), ((tm = frame 0 104 [(0, .p 0 0 0), (1, .c (.v (.int .i64 x3))), (2, .p 1 1 0), (6, .p 7000 2 0), (7, .p 8000 2 0), (10, .c (.v (.int .i64 z20))), (90, .c (.v (.bool j21)))] ∧ m = ⟨[(0, .blk 0 [.c (.sl 1 z15 none), .c (.v (.int .i64 z16)), .c (.v (.int .i64 z17))]), (1, .blk 1 [.c (.v (.int .i64 z18))]), (7000, .blk 2 [.c (.v (.int .i64 0)), .c (.v (.int .i64 0)), .c (.v (.string ⟨#[]⟩)), .c (.sl 3 [] (some [])), .c (.sl 5 [] (some []))]), (8000, .blk 2 [.c (.v (.int .i64 y7)), .c (.v (.int .i64 y11)), .c (.v (.string ⟨#[]⟩)), .c (.sl 3 [] (some [])), .t 102000 2 (O.len z19)]), (102000, .arr 2 5 z19 none false)], 3⟩)) ∧ p115_1 False fu (p115 False fu) K0 (p115_2L False fu (p115 False fu) K0  x3 y7 y11 n1) x3 y7 y11 z15 z16 z17 z18 z19 z20 j21) (fun L hL_1 => ?_) ?_
              · conv => cbv
                refine call_h hO [.shut] (d_p136 fu O.len hN h) ?_
                intro os Q hos hQ
                conv => cbv
                refine ⟨(by (rw [hos]) <;> (subst hO; rfl)), ?_⟩
                intro r bs hq
                rw [hQ] at hq
                clear hos hQ h
                obtain ⟨y31, _, ⟨rfl, rfl⟩, h⟩ := hq
                conv => cbv
                refine br_h hO h (by subst hO; rfl) (fun hc4 h => ?_) (fun hc4 h => ?_)
                · conv => cbv
                  refine br_t hO hc4 ?_
                  conv => cbv
                  refine br_t hO hc4 ?_
                  conv => cbv
                  refine br_t hO hc4 ?_
                  conv => cbv
                  refine br_t hO hc4 ?_
                  conv => cbv
                  refine br_t hO hc4 ?_
                  conv => cbv
                  exact hL_1 _ _ ⟨(cmpStd .eql z17 0), ⟨(by (conv => lhs; cbv) <;> (subst hO; rfl)), (by (conv => lhs; cbv) <;> (subst hO; rfl))⟩, h⟩
                · conv => cbv
                  refine br_f hO hc4 ?_
                  conv => cbv
                  refine br_f hO hc4 ?_
                  conv => cbv
                  refine br_f hO hc4 ?_
                  conv => cbv
                  refine br_f hO hc4 ?_
                  conv => cbv
                  refine br_f hO hc4 ?_
                  conv => cbv
                  exact hL_1 _ _ ⟨false, ⟨(by (conv => lhs; cbv) <;> (subst hO; rfl)), (by (conv => lhs; cbv) <;> (subst hO; rfl))⟩, h⟩
              · rintro tm m ⟨j21, hs, h⟩
                unfold p115_1 at h
                obtain ⟨rfl, rfl⟩ := hs
                conv => cbv
                refine br_h hO h (by subst hO; rfl) (fun hc3 h => ?_) (fun hc3 h => ?_)
                · conv => cbv
                  refine join_all hO ?_
                  conv => cbv
                  refine drawn_of hO tiA [[0, 1], [], [], [], []] [(0, true, false), (1, true, false), (2, true, false), (3, true, false), (4, true, false), (5, true, false), (6, false, false), (7, false, false), (8, false, true), (9, true, true), (10, false, true)] (by kernel_rfl) ?_
                  conv => cbv
                  refine call_h hO [.ref 3, .shut, .ref 1] (ih_p115 O.len hN h) ?_
                  intro os Q hos hQ
                  conv => cbv
                  refine ⟨(by (rw [hos]) <;> (subst hO; rfl)), ?_⟩
                  intro r bs hq
                  rw [hQ] at hq
                  clear hos hQ h
                  obtain ⟨y22, y23, y24, y25, y26, y27, y28, y29, y30, _, ⟨rfl, rfl⟩, h⟩ := hq
                  conv => cbv
                  refine ⟨agree_of hO (Nat.le_of_ble_eq_true rfl) rfl, ?_⟩
                  refine ⟨agree_of hO (Nat.le_of_ble_eq_true rfl) rfl, ?_⟩
                  refine view_h hO h (fun g => (by subst hO; exact g)) (fun h => ?_)
                  conv => cbv
                  refine ⟨(by subst hO; rfl), ?_⟩
                  refine and_h h (fun g => (by subst hO; exact g)) (fun h => ?_)
                  refine join_all hO ?_
                  conv => cbv
                  exact hLn1 n1 _ _ (Nat.lt_succ_self n1) ⟨y27, y28, y29, y30, (z19 ++ (List.take 1 [[(CV.v (.int .i64 y22)), (CV.v (.int .i64 y23)), (CV.v (.string y24)), (CV.sl 3 y25 none), (CV.sl 5 y26 none)]])), binStd .add .i64 z20 1, (.inr ⟨(by (conv => lhs; cbv) <;> (subst hO; rfl)), (by (conv => lhs; cbv) <;> (subst hO; rfl))⟩), h⟩
                · conv => cbv
                  refine view_full hO ?_
                  conv => cbv
                  rw [hQ]
                  exact ⟨y7, y11, ⟨#[]⟩, nilE, z19, z15, z16, z17, z18, _, ⟨(by subst hO; rfl), (by subst hO; rfl)⟩, h⟩
        · conv => cbv
          refine br_h hO h (by subst hO; rfl) (fun hc5 h => ?_) (fun hc5 h => ?_)
          · conv => cbv
            refine call_h hO [.ref 3] (d_p74 fu O.len hN h) ?_
            intro os Q hos hQ
            conv => cbv
            refine ⟨(by (rw [hos]) <;> (subst hO; rfl)), ?_⟩
            intro r bs hq
            rw [hQ] at hq
            clear hos hQ h
            obtain ⟨y32, y33, y34, y35, y36, y37, ⟨rfl, rfl⟩, h⟩ := hq
            conv => cbv
            refine join_all hO ?_
            conv => cbv
            refine join_all hO ?_
            conv => cbv
            refine loop_of hO tiA [0, 1, 2, 6, 7, 10] [0, 1, 7000, 8000, 48000, 102000] [] (fun (n : Nat) tm m => ∃ (z38 : EL) (z39 : Int) (z40 : Int) (z41 : Int) (z42 : EL) (z43 : EL) (z44 : Int), ((z43 = [] ∧ tm = frame 0 104 [(0, .p 0 0 0), (1, .c (.v (.int .i64 x3))), (2, .p 1 1 0), (6, .p 7000 2 0), (7, .p 8000 2 0), (10, .c (.v (.int .i64 z44)))] ∧ m = ⟨[(0, .blk 0 [.c (.sl 1 z38 none), .c (.v (.int .i64 z39)), .c (.v (.int .i64 z40))]), (1, .blk 1 [.c (.v (.int .i64 z41))]), (7000, .blk 2 [.c (.v (.int .i64 0)), .c (.v (.int .i64 0)), .c (.v (.string ⟨#[]⟩)), .c (.sl 3 [] (some [])), .c (.sl 5 [] (some []))]), (8000, .blk 2 [.c (.v (.int .i64 y7)), .c (.v (.int .i64 0)), .c (.v (.string ⟨#[]⟩)), .t 48000 2 1, .c (.sl 5 [] (some []))]), (48000, .arr 2 3 z42 (some 1) false)], 3⟩) ∨ (tm = frame 0 104 [(0, .p 0 0 0), (1, .c (.v (.int .i64 x3))), (2, .p 1 1 0), (6, .p 7000 2 0), (7, .p 8000 2 0), (10, .c (.v (.int .i64 z44)))] ∧ m = ⟨[(0, .blk 0 [.c (.sl 1 z38 none), .c (.v (.int .i64 z39)), .c (.v (.int .i64 z40))]), (1, .blk 1 [.c (.v (.int .i64 z41))]), (7000, .blk 2 [.c (.v (.int .i64 0)), .c (.v (.int .i64 0)), .c (.v (.string ⟨#[]⟩)), .c (.sl 3 [] (some [])), .c (.sl 5 [] (some []))]), (8000, .blk 2 [.c (.v (.int .i64 y7)), .c (.v (.int .i64 0)), .c (.v (.string ⟨#[]⟩)), .t 48000 2 1, .t 102000 2 (O.len z43)]), (48000, .arr 2 3 z42 (some 1) false), (102000, .arr 2 5 z43 none false)], 3⟩)) ∧ p115_4L False fu (p115 False fu) K0 x3 y7 n z38 z39 z40 z41 z42 z43 z44) (fun n => n) fu ⟨y35, y36, y37, binStd .sub .i64 x4 1, [[(CV.v (.int .i64 y32)), (CV.v (.int .i64 y33)), (CV.sl 3 y34 none)]], nilE, 0, (.inl ⟨rfl, (by (conv => lhs; cbv) <;> (subst hO; rfl)), (by (conv => lhs; cbv) <;> (subst hO; rfl))⟩), h⟩ ?_
            rintro n2 tm m L ⟨z38, z39, z40, z41, z42, z43, z44, hs, h⟩ hLn2
            cases n2 with
            | zero => rw [p115_4L] at h; exact h.elim
            | succ n2 =>
              rw [p115_4L] at h
              unfold p115_4 at h
              rcases hs with hs | hs
              · obtain ⟨rfl, rfl, rfl⟩ := hs
                conv => cbv
                refine reg_join hO tiA [0, 1, 2, 6, 7, 10, 90] [0, 1, 7000, 8000, 48000] [] (fun tm m => ∃ (j45 : Bool), ((tm = frame 0 104 [(0, .p 0 0 0), (1, .c (.v (.int .i64 x3))), (2, .p 1 1 0), (6, .p 7000 2 0), (7, .p 8000 2 0), (10, .c (.v (.int .i64 z44))), (90, .c (.v (.bool j45)))] ∧ m = ⟨[(0, .blk 0 [.c (.sl 1 z38 none), .c (.v (.int .i64 z39)), .c (.v (.int .i64 z40))]), (1, .blk 1 [.c (.v (.int .i64 z41))]), (7000, .blk 2 [.c (.v (.int .i64 0)), .c (.v (.int .i64 0)), .c (.v (.string ⟨#[]⟩)), .c (.sl 3 [] (some [])), .c (.sl 5 [] (some []))]), (8000, .blk 2 [.c (.v (.int .i64 y7)), .c (.v (.int .i64 0)), .c (.v (.string ⟨#[]⟩)), .t 48000 2 1, .c (.sl 5 [] (some []))]), (48000, .arr 2 3 z42 (some 1) false)], 3⟩)) ∧ p115_3 False fu (p115 False fu) K0 (p115_4L False fu (p115 False fu) K0  x3 y7 n2) x3 y7 z38 z39 z40 z41 z42 nilE z44 j45) (fun L hL_3 => ?_) ?_
                · conv => cbv
                  refine call_h hO [.shut] (d_p136 fu O.len hN h) ?_
                  intro os Q hos hQ
                  conv => cbv
                  refine ⟨(by (rw [hos]) <;> (subst hO; rfl)), ?_⟩
                  intro r bs hq
                  rw [hQ] at hq
                  clear hos hQ h
                  obtain ⟨y55, _, ⟨rfl, rfl⟩, h⟩ := hq
                  conv => cbv
                  refine br_h hO h (by subst hO; rfl) (fun hc7 h => ?_) (fun hc7 h => ?_)
                  · conv => cbv
                    refine br_t hO hc7 ?_
                    conv => cbv
                    refine br_t hO hc7 ?_
                    conv => cbv
                    refine br_t hO hc7 ?_
                    conv => cbv
                    refine br_t hO hc7 ?_
                    conv => cbv
                    refine br_t hO hc7 ?_
                    conv => cbv
                    exact hL_3 _ _ ⟨(cmpStd .eql z40 0), ⟨(by (conv => lhs; cbv) <;> (subst hO; rfl)), (by (conv => lhs; cbv) <;> (subst hO; rfl))⟩, h⟩
                  · conv => cbv
                    refine br_f hO hc7 ?_
                    conv => cbv
                    refine br_f hO hc7 ?_
                    conv => cbv
                    refine br_f hO hc7 ?_
                    conv => cbv
                    refine br_f hO hc7 ?_
                    conv => cbv
                    refine br_f hO hc7 ?_
                    conv => cbv
                    exact hL_3 _ _ ⟨false, ⟨(by (conv => lhs; cbv) <;> (subst hO; rfl)), (by (conv => lhs; cbv) <;> (subst hO; rfl))⟩, h⟩
                · rintro tm m ⟨j45, hs, h⟩
                  unfold p115_3 at h
                  obtain ⟨rfl, rfl⟩ := hs
                  conv => cbv
                  refine br_h hO h (by subst hO; rfl) (fun hc6 h => ?_) (fun hc6 h => ?_)
                  · conv => cbv
                    refine join_all hO ?_
                    conv => cbv
                    refine drawn_of hO tiA [[0, 1], [], [], [], []] [(0, true, false), (1, true, false), (2, true, false), (3, true, false), (4, true, false), (5, true, false), (6, false, false), (7, false, false), (8, false, true), (9, true, true), (10, false, true)] (by kernel_rfl) ?_
                    conv => cbv
                    refine call_h hO [.ref 3, .shut, .ref 1] (ih_p115 O.len hN h) ?_
                    intro os Q hos hQ
                    conv => cbv
                    refine ⟨(by (rw [hos]) <;> (subst hO; rfl)), ?_⟩
                    intro r bs hq
                    rw [hQ] at hq
                    clear hos hQ h
                    obtain ⟨y46, y47, y48, y49, y50, y51, y52, y53, y54, _, ⟨rfl, rfl⟩, h⟩ := hq
                    conv => cbv
                    refine ⟨agree_of hO (Nat.le_of_ble_eq_true rfl) rfl, ?_⟩
                    refine ⟨agree_of hO (Nat.le_of_ble_eq_true rfl) rfl, ?_⟩
                    refine view_h hO h (fun g => (by subst hO; exact g)) (fun h => ?_)
                    conv => cbv
                    refine and_h h (fun g => (by subst hO; exact g)) (fun h => ?_)
                    refine emp_no hO (by subst hO; exact List.cons_ne_nil _ _) ?_
                    conv => cbv
                    refine join_all hO ?_
                    conv => cbv
                    exact hLn2 n2 _ _ (Nat.lt_succ_self n2) ⟨y51, y52, y53, y54, z42, (nilE ++ (List.take 1 [[(CV.v (.int .i64 y46)), (CV.v (.int .i64 y47)), (CV.v (.string y48)), (CV.sl 3 y49 none), (CV.sl 5 y50 none)]])), binStd .add .i64 z44 1, (.inr ⟨(by (conv => lhs; cbv) <;> (subst hO; rfl)), (by (conv => lhs; cbv) <;> (subst hO; rfl))⟩), h⟩
                  · conv => cbv
                    refine view_h hO h (fun g => (by subst hO; exact g)) (fun h => ?_)
                    conv => cbv
                    rw [hQ]
                    exact ⟨y7, 0, ⟨#[]⟩, List.take 1 z42, nilE, z38, z39, z40, z41, _, ⟨(by subst hO; rfl), (by subst hO; rfl)⟩, h⟩
              · obtain ⟨rfl, rfl⟩ := hs
                conv => cbv
                refine reg_join hO tiA [0, 1, 2, 6, 7, 10, 90] [0, 1, 7000, 8000, 48000, 102000] [] (fun tm m => ∃ (j45 : Bool), ((tm = frame 0 104 [(0, .p 0 0 0), (1, .c (.v (.int .i64 x3))), (2, .p 1 1 0), (6, .p 7000 2 0), (7, .p 8000 2 0), (10, .c (.v (.int .i64 z44))), (90, .c (.v (.bool j45)))] ∧ m = ⟨[(0, .blk 0 [.c (.sl 1 z38 none), .c (.v (.int .i64 z39)), .c (.v (.int .i64 z40))]), (1, .blk 1 [.c (.v (.int .i64 z41))]), (7000, .blk 2 [.c (.v (.int .i64 0)), .c (.v (.int .i64 0)), .c (.v (.string ⟨#[]⟩)), .c (.sl 3 [] (some [])), .c (.sl 5 [] (some []))]), (8000, .blk 2 [.c (.v (.int .i64 y7)), .c (.v (.int .i64 0)), .c (.v (.string ⟨#[]⟩)), .t 48000 2 1, .t 102000 2 (O.len z43)]), (48000, .arr 2 3 z42 (some 1) false), (102000, .arr 2 5 z43 none false)], 3⟩)) ∧ p115_3 False fu (p115 False fu) K0 (p115_4L False fu (p115 False fu) K0  x3 y7 n2) x3 y7 z38 z39 z40 z41 z42 z43 z44 j45) (fun L hL_3 => ?_) ?_
                · conv => cbv
                  refine call_h hO [.shut] (d_p136 fu O.len hN h) ?_
                  intro os Q hos hQ
                  conv => cbv
                  refine ⟨(by (rw [hos]) <;> (subst hO; rfl)), ?_⟩
                  intro r bs hq
                  rw [hQ] at hq
                  clear hos hQ h
                  obtain ⟨y55, _, ⟨rfl, rfl⟩, h⟩ := hq
                  conv => cbv
                  refine br_h hO h (by subst hO; rfl) (fun hc7 h => ?_) (fun hc7 h => ?_)
                  · conv => cbv
                    refine br_t hO hc7 ?_
                    conv => cbv
                    refine br_t hO hc7 ?_
                    conv => cbv
                    refine br_t hO hc7 ?_
                    conv => cbv
                    refine br_t hO hc7 ?_
                    conv => cbv
                    refine br_t hO hc7 ?_
                    conv => cbv
                    exact hL_3 _ _ ⟨(cmpStd .eql z40 0), ⟨(by (conv => lhs; cbv) <;> (subst hO; rfl)), (by (conv => lhs; cbv) <;> (subst hO; rfl))⟩, h⟩
                  · conv => cbv
                    refine br_f hO hc7 ?_
                    conv => cbv
                    refine br_f hO hc7 ?_
                    conv => cbv
                    refine br_f hO hc7 ?_
                    conv => cbv
                    refine br_f hO hc7 ?_
                    conv => cbv
                    refine br_f hO hc7 ?_
                    conv => cbv
                    exact hL_3 _ _ ⟨false, ⟨(by (conv => lhs; cbv) <;> (subst hO; rfl)), (by (conv => lhs; cbv) <;> (subst hO; rfl))⟩, h⟩
                · rintro tm m ⟨j45, hs, h⟩
                  unfold p115_3 at h
                  obtain ⟨rfl, rfl⟩ := hs
                  conv => cbv
                  refine br_h hO h (by subst hO; rfl) (fun hc6 h => ?_) (fun hc6 h => ?_)
                  · conv => cbv
                    refine join_all hO ?_
                    conv => cbv
                    refine drawn_of hO tiA [[0, 1], [], [], [], []] [(0, true, false), (1, true, false), (2, true, false), (3, true, false), (4, true, false), (5, true, false), (6, false, false), (7, false, false), (8, false, true), (9, true, true), (10, false, true)] (by kernel_rfl) ?_
                    conv => cbv
                    refine call_h hO [.ref 3, .shut, .ref 1] (ih_p115 O.len hN h) ?_
                    intro os Q hos hQ
                    conv => cbv
                    refine ⟨(by (rw [hos]) <;> (subst hO; rfl)), ?_⟩
                    intro r bs hq
                    rw [hQ] at hq
                    clear hos hQ h
                    obtain ⟨y46, y47, y48, y49, y50, y51, y52, y53, y54, _, ⟨rfl, rfl⟩, h⟩ := hq
                    conv => cbv
                    refine ⟨agree_of hO (Nat.le_of_ble_eq_true rfl) rfl, ?_⟩
                    refine ⟨agree_of hO (Nat.le_of_ble_eq_true rfl) rfl, ?_⟩
                    refine view_h hO h (fun g => (by subst hO; exact g)) (fun h => ?_)
                    conv => cbv
                    refine ⟨(by subst hO; rfl), ?_⟩
                    refine and_h h (fun g => (by subst hO; exact g)) (fun h => ?_)
                    refine join_all hO ?_
                    conv => cbv
                    exact hLn2 n2 _ _ (Nat.lt_succ_self n2) ⟨y51, y52, y53, y54, z42, (z43 ++ (List.take 1 [[(CV.v (.int .i64 y46)), (CV.v (.int .i64 y47)), (CV.v (.string y48)), (CV.sl 3 y49 none), (CV.sl 5 y50 none)]])), binStd .add .i64 z44 1, (.inr ⟨(by (conv => lhs; cbv) <;> (subst hO; rfl)), (by (conv => lhs; cbv) <;> (subst hO; rfl))⟩), h⟩
                  · conv => cbv
                    refine view_h hO h (fun g => (by subst hO; exact g)) (fun h => ?_)
                    conv => cbv
                    refine view_full hO ?_
                    conv => cbv
                    rw [hQ]
                    exact ⟨y7, 0, ⟨#[]⟩, List.take 1 z42, z43, z38, z39, z40, z41, _, ⟨(by subst hO; rfl), (by subst hO; rfl)⟩, h⟩
          · conv => cbv
            refine br_join_h hO tiA h (by subst hO; rfl) [0, 1, 2, 6, 7] [0, 1, 7000, 8000, 78000] [] (fun tm m => ∃ (j56 : EL) (j57 : Int) (j58 : Int) (j59 : Int) (j60 : ByteArray) (j61 : EL), ((j61 = [] ∧ tm = frame 0 104 [(0, .p 0 0 0), (1, .c (.v (.int .i64 x3))), (2, .p 1 1 0), (6, .p 7000 2 0), (7, .p 8000 2 0)] ∧ m = ⟨[(0, .blk 0 [.c (.sl 1 j56 none), .c (.v (.int .i64 j57)), .c (.v (.int .i64 j58))]), (1, .blk 1 [.c (.v (.int .i64 j59))]), (7000, .blk 2 [.c (.v (.int .i64 0)), .c (.v (.int .i64 0)), .c (.v (.string ⟨#[]⟩)), .c (.sl 3 [] (some [])), .c (.sl 5 [] (some []))]), (8000, .blk 2 [.c (.v (.int .i64 y7)), .c (.v (.int .i64 0)), .c (.v (.string j60)), .c (.sl 3 [] (some [])), .c (.sl 5 [] (some []))])], 3⟩) ∨ (tm = frame 0 104 [(0, .p 0 0 0), (1, .c (.v (.int .i64 x3))), (2, .p 1 1 0), (6, .p 7000 2 0), (7, .p 8000 2 0)] ∧ m = ⟨[(0, .blk 0 [.c (.sl 1 j56 none), .c (.v (.int .i64 j57)), .c (.v (.int .i64 j58))]), (1, .blk 1 [.c (.v (.int .i64 j59))]), (7000, .blk 2 [.c (.v (.int .i64 0)), .c (.v (.int .i64 0)), .c (.v (.string ⟨#[]⟩)), .c (.sl 3 [] (some [])), .c (.sl 5 [] (some []))]), (8000, .blk 2 [.c (.v (.int .i64 y7)), .c (.v (.int .i64 0)), .c (.v (.string j60)), .t 78000 2 (O.len j61), .c (.sl 5 [] (some []))]), (78000, .arr 2 3 j61 none false)], 3⟩)) ∧ p115_7 False fu (p115 False fu) K0 x3 y7 j56 j57 j58 j59 j60 j61) (fun hc10 h L hL_7 => ?_) (fun hc10 h L hL_7 => ?_) ?_
            · conv => cbv
              refine call_h hO [.ref 3] (d_p98 fu O.len hN h) ?_
              intro os Q hos hQ
              conv => cbv
              refine ⟨(by (rw [hos]) <;> (subst hO; rfl)), ?_⟩
              intro r bs hq
              rw [hQ] at hq
              clear hos hQ h
              obtain ⟨y79, y80, y81, y82, ⟨rfl, rfl⟩, h⟩ := hq
              conv => cbv
              refine call_h hO [.ref 3] (d_p96 fu O.len hN h) ?_
              intro os Q hos hQ
              conv => cbv
              refine ⟨(by (rw [hos]) <;> (subst hO; rfl)), ?_⟩
              intro r bs hq
              rw [hQ] at hq
              clear hos hQ h
              obtain ⟨y83, y84, y85, y86, ⟨rfl, rfl⟩, h⟩ := hq
              conv => cbv
              refine br_join_h hO tiA h (by subst hO; rfl) [0, 1, 2, 6, 7, 8] [0, 1, 7000, 8000] [] (fun tm m => ∃ (j87 : EL) (j88 : Int) (j89 : Int) (j90 : Int), ((tm = frame 0 104 [(0, .p 0 0 0), (1, .c (.v (.int .i64 x3))), (2, .p 1 1 0), (6, .p 7000 2 0), (7, .p 8000 2 0), (8, .c (.v (.int .i64 y83)))] ∧ m = ⟨[(0, .blk 0 [.c (.sl 1 j87 none), .c (.v (.int .i64 j88)), .c (.v (.int .i64 j89))]), (1, .blk 1 [.c (.v (.int .i64 j90))]), (7000, .blk 2 [.c (.v (.int .i64 0)), .c (.v (.int .i64 0)), .c (.v (.string ⟨#[]⟩)), .c (.sl 3 [] (some [])), .c (.sl 5 [] (some []))]), (8000, .blk 2 [.c (.v (.int .i64 y7)), .c (.v (.int .i64 0)), .c (.v (.string y79)), .c (.sl 3 [] (some [])), .c (.sl 5 [] (some []))])], 3⟩)) ∧ p115_10 False fu (p115 False fu) K0 x3 y7 y79 y83 j87 j88 j89 j90) (fun hc13 h L hL_10 => ?_) (fun hc13 h L hL_10 => ?_) ?_
              · conv => cbv
                refine call_h hO [.ref 3, .shut] (d_p118 fu O.len hN h) ?_
                intro os Q hos hQ
                conv => cbv
                refine ⟨(by (rw [hos]) <;> (subst hO; rfl)), ?_⟩
                intro r bs hq
                rw [hQ] at hq
                clear hos hQ h
                obtain ⟨y103, y104, y105, _, ⟨rfl, rfl⟩, h⟩ := hq
                conv => cbv
                exact hL_10 _ _ ⟨y103, y104, y105, binStd .sub .i64 x4 1, ⟨(by (conv => lhs; cbv) <;> (subst hO; rfl)), (by (conv => lhs; cbv) <;> (subst hO; rfl))⟩, h⟩
              · conv => cbv
                exact hL_10 _ _ ⟨y84, y85, y86, binStd .sub .i64 x4 1, ⟨(by (conv => lhs; cbv) <;> (subst hO; rfl)), (by (conv => lhs; cbv) <;> (subst hO; rfl))⟩, h⟩
              · rintro tm m ⟨j87, j88, j89, j90, hs, h⟩
                unfold p115_10 at h
                obtain ⟨rfl, rfl⟩ := hs
                conv => cbv
                refine loop_of hO tiA [0, 1, 2, 6, 7, 8, 9] [0, 1, 7000, 8000, 78000] [] (fun (n : Nat) tm m => ∃ (z91 : EL) (z92 : Int) (z93 : Int) (z94 : EL) (z95 : Int), ((z94 = [] ∧ tm = frame 0 104 [(0, .p 0 0 0), (1, .c (.v (.int .i64 x3))), (2, .p 1 1 0), (6, .p 7000 2 0), (7, .p 8000 2 0), (8, .c (.v (.int .i64 y83))), (9, .c (.v (.int .i64 z95)))] ∧ m = ⟨[(0, .blk 0 [.c (.sl 1 z91 none), .c (.v (.int .i64 z92)), .c (.v (.int .i64 z93))]), (1, .blk 1 [.c (.v (.int .i64 j90))]), (7000, .blk 2 [.c (.v (.int .i64 0)), .c (.v (.int .i64 0)), .c (.v (.string ⟨#[]⟩)), .c (.sl 3 [] (some [])), .c (.sl 5 [] (some []))]), (8000, .blk 2 [.c (.v (.int .i64 y7)), .c (.v (.int .i64 0)), .c (.v (.string y79)), .c (.sl 3 [] (some [])), .c (.sl 5 [] (some []))])], 3⟩) ∨ (tm = frame 0 104 [(0, .p 0 0 0), (1, .c (.v (.int .i64 x3))), (2, .p 1 1 0), (6, .p 7000 2 0), (7, .p 8000 2 0), (8, .c (.v (.int .i64 y83))), (9, .c (.v (.int .i64 z95)))] ∧ m = ⟨[(0, .blk 0 [.c (.sl 1 z91 none), .c (.v (.int .i64 z92)), .c (.v (.int .i64 z93))]), (1, .blk 1 [.c (.v (.int .i64 j90))]), (7000, .blk 2 [.c (.v (.int .i64 0)), .c (.v (.int .i64 0)), .c (.v (.string ⟨#[]⟩)), .c (.sl 3 [] (some [])), .c (.sl 5 [] (some []))]), (8000, .blk 2 [.c (.v (.int .i64 y7)), .c (.v (.int .i64 0)), .c (.v (.string y79)), .t 78000 2 (O.len z94), .c (.sl 5 [] (some []))]), (78000, .arr 2 3 z94 none false)], 3⟩)) ∧ p115_9L False fu (p115 False fu) K0 x3 y7 y79 y83 j90 n z91 z92 z93 z94 z95) (fun n => n) fu ⟨j87, j88, j89, nilE, 0, (.inl ⟨rfl, (by (conv => lhs; cbv) <;> (subst hO; rfl)), (by (conv => lhs; cbv) <;> (subst hO; rfl))⟩), h⟩ ?_
                rintro n4 tm m L ⟨z91, z92, z93, z94, z95, hs, h⟩ hLn4
                cases n4 with
                | zero => rw [p115_9L] at h; exact h.elim
                | succ n4 =>
                  rw [p115_9L] at h
                  unfold p115_9 at h
                  rcases hs with hs | hs
                  · obtain ⟨rfl, rfl, rfl⟩ := hs
                    conv => cbv
                    refine reg_join hO tiA [0, 1, 2, 6, 7, 8, 9, 69] [0, 1, 7000, 8000] [] (fun tm m => ∃ (j96 : Bool), ((tm = frame 0 104 [(0, .p 0 0 0), (1, .c (.v (.int .i64 x3))), (2, .p 1 1 0), (6, .p 7000 2 0), (7, .p 8000 2 0), (8, .c (.v (.int .i64 y83))), (9, .c (.v (.int .i64 z95))), (69, .c (.v (.bool j96)))] ∧ m = ⟨[(0, .blk 0 [.c (.sl 1 z91 none), .c (.v (.int .i64 z92)), .c (.v (.int .i64 z93))]), (1, .blk 1 [.c (.v (.int .i64 j90))]), (7000, .blk 2 [.c (.v (.int .i64 0)), .c (.v (.int .i64 0)), .c (.v (.string ⟨#[]⟩)), .c (.sl 3 [] (some [])), .c (.sl 5 [] (some []))]), (8000, .blk 2 [.c (.v (.int .i64 y7)), .c (.v (.int .i64 0)), .c (.v (.string y79)), .c (.sl 3 [] (some [])), .c (.sl 5 [] (some []))])], 3⟩)) ∧ p115_8 False fu (p115 False fu) K0 (p115_9L False fu (p115 False fu) K0  x3 y7 y79 y83 j90 n4) x3 y7 y79 j90 z91 z92 z93 nilE z95 j96) (fun L hL_8 => ?_) ?_
                    · conv => cbv
                      refine br_h hO h (by subst hO; rfl) (fun hc12 h => ?_) (fun hc12 h => ?_)
                      · conv => cbv
                        refine br_t hO hc12 ?_
                        conv => cbv
                        refine br_t hO hc12 ?_
                        conv => cbv
                        refine br_t hO hc12 ?_
                        conv => cbv
                        refine br_t hO hc12 ?_
                        conv => cbv
                        refine br_t hO hc12 ?_
                        conv => cbv
                        exact hL_8 _ _ ⟨(cmpStd .eql z93 0), ⟨(by (conv => lhs; cbv) <;> (subst hO; rfl)), (by (conv => lhs; cbv) <;> (subst hO; rfl))⟩, h⟩
                      · conv => cbv
                        refine br_f hO hc12 ?_
                        conv => cbv
                        refine br_f hO hc12 ?_
                        conv => cbv
                        refine br_f hO hc12 ?_
                        conv => cbv
                        refine br_f hO hc12 ?_
                        conv => cbv
                        refine br_f hO hc12 ?_
                        conv => cbv
                        exact hL_8 _ _ ⟨false, ⟨(by (conv => lhs; cbv) <;> (subst hO; rfl)), (by (conv => lhs; cbv) <;> (subst hO; rfl))⟩, h⟩
                    · rintro tm m ⟨j96, hs, h⟩
                      unfold p115_8 at h
                      obtain ⟨rfl, rfl⟩ := hs
                      conv => cbv
                      refine br_h hO h (by subst hO; rfl) (fun hc11 h => ?_) (fun hc11 h => ?_)
                      · conv => cbv
                        refine join_all hO ?_
                        conv => cbv
                        refine drawn_of hO tiA [[0], [], [], [], []] [(0, true, false), (1, true, false), (2, true, false), (3, false, false), (4, false, false), (5, false, true), (6, true, true), (7, false, true)] (by kernel_rfl) ?_
                        conv => cbv
                        refine call_h hO [.ref 3] (d_p74 fu O.len hN h) ?_
                        intro os Q hos hQ
                        conv => cbv
                        refine ⟨(by (rw [hos]) <;> (subst hO; rfl)), ?_⟩
                        intro r bs hq
                        rw [hQ] at hq
                        clear hos hQ h
                        obtain ⟨y97, y98, y99, y100, y101, y102, ⟨rfl, rfl⟩, h⟩ := hq
                        conv => cbv
                        refine ⟨agree_of hO (Nat.le_of_ble_eq_true rfl) rfl, ?_⟩
                        refine ⟨agree_of hO (Nat.le_of_ble_eq_true rfl) rfl, ?_⟩
                        refine view_h hO h (fun g => (by subst hO; exact g)) (fun h => ?_)
                        conv => cbv
                        refine and_h h (fun g => (by subst hO; exact g)) (fun h => ?_)
                        refine emp_no hO (by subst hO; exact List.cons_ne_nil _ _) ?_
                        conv => cbv
                        refine join_all hO ?_
                        conv => cbv
                        exact hLn4 n4 _ _ (Nat.lt_succ_self n4) ⟨y100, y101, y102, (nilE ++ (List.take 1 [[(CV.v (.int .i64 y97)), (CV.v (.int .i64 y98)), (CV.sl 3 y99 none)]])), binStd .add .i64 z95 1, (.inr ⟨(by (conv => lhs; cbv) <;> (subst hO; rfl)), (by (conv => lhs; cbv) <;> (subst hO; rfl))⟩), h⟩
                      · conv => cbv
                        exact hL_7 _ _ ⟨z91, z92, z93, j90, y79, nilE, (.inl ⟨rfl, (by (conv => lhs; cbv) <;> (subst hO; rfl)), (by (conv => lhs; cbv) <;> (subst hO; rfl))⟩), h⟩
                  · obtain ⟨rfl, rfl⟩ := hs
                    conv => cbv
                    refine reg_join hO tiA [0, 1, 2, 6, 7, 8, 9, 69] [0, 1, 7000, 8000, 78000] [] (fun tm m => ∃ (j96 : Bool), ((tm = frame 0 104 [(0, .p 0 0 0), (1, .c (.v (.int .i64 x3))), (2, .p 1 1 0), (6, .p 7000 2 0), (7, .p 8000 2 0), (8, .c (.v (.int .i64 y83))), (9, .c (.v (.int .i64 z95))), (69, .c (.v (.bool j96)))] ∧ m = ⟨[(0, .blk 0 [.c (.sl 1 z91 none), .c (.v (.int .i64 z92)), .c (.v (.int .i64 z93))]), (1, .blk 1 [.c (.v (.int .i64 j90))]), (7000, .blk 2 [.c (.v (.int .i64 0)), .c (.v (.int .i64 0)), .c (.v (.string ⟨#[]⟩)), .c (.sl 3 [] (some [])), .c (.sl 5 [] (some []))]), (8000, .blk 2 [.c (.v (.int .i64 y7)), .c (.v (.int .i64 0)), .c (.v (.string y79)), .t 78000 2 (O.len z94), .c (.sl 5 [] (some []))]), (78000, .arr 2 3 z94 none false)], 3⟩)) ∧ p115_8 False fu (p115 False fu) K0 (p115_9L False fu (p115 False fu) K0  x3 y7 y79 y83 j90 n4) x3 y7 y79 j90 z91 z92 z93 z94 z95 j96) (fun L hL_8 => ?_) ?_
                    · conv => cbv
                      refine br_h hO h (by subst hO; rfl) (fun hc12 h => ?_) (fun hc12 h => ?_)
                      · conv => cbv
                        refine br_t hO hc12 ?_
                        conv => cbv
                        refine br_t hO hc12 ?_
                        conv => cbv
                        refine br_t hO hc12 ?_
                        conv => cbv
                        refine br_t hO hc12 ?_
                        conv => cbv
                        refine br_t hO hc12 ?_
                        conv => cbv
                        exact hL_8 _ _ ⟨(cmpStd .eql z93 0), ⟨(by (conv => lhs; cbv) <;> (subst hO; rfl)), (by (conv => lhs; cbv) <;> (subst hO; rfl))⟩, h⟩
                      · conv => cbv
                        refine br_f hO hc12 ?_
                        conv => cbv
                        refine br_f hO hc12 ?_
                        conv => cbv
                        refine br_f hO hc12 ?_
                        conv => cbv
                        refine br_f hO hc12 ?_
                        conv => cbv
                        refine br_f hO hc12 ?_
                        conv => cbv
                        exact hL_8 _ _ ⟨false, ⟨(by (conv => lhs; cbv) <;> (subst hO; rfl)), (by (conv => lhs; cbv) <;> (subst hO; rfl))⟩, h⟩
                    · rintro tm m ⟨j96, hs, h⟩
                      unfold p115_8 at h
                      obtain ⟨rfl, rfl⟩ := hs
                      conv => cbv
                      refine br_h hO h (by subst hO; rfl) (fun hc11 h => ?_) (fun hc11 h => ?_)
                      · conv => cbv
                        refine join_all hO ?_
                        conv => cbv
                        refine drawn_of hO tiA [[0], [], [], [], []] [(0, true, false), (1, true, false), (2, true, false), (3, false, false), (4, false, false), (5, false, true), (6, true, true), (7, false, true)] (by kernel_rfl) ?_
                        conv => cbv
                        refine call_h hO [.ref 3] (d_p74 fu O.len hN h) ?_
                        intro os Q hos hQ
                        conv => cbv
                        refine ⟨(by (rw [hos]) <;> (subst hO; rfl)), ?_⟩
                        intro r bs hq
                        rw [hQ] at hq
                        clear hos hQ h
                        obtain ⟨y97, y98, y99, y100, y101, y102, ⟨rfl, rfl⟩, h⟩ := hq
                        conv => cbv
                        refine ⟨agree_of hO (Nat.le_of_ble_eq_true rfl) rfl, ?_⟩
                        refine ⟨agree_of hO (Nat.le_of_ble_eq_true rfl) rfl, ?_⟩
                        refine view_h hO h (fun g => (by subst hO; exact g)) (fun h => ?_)
                        conv => cbv
                        refine ⟨(by subst hO; rfl), ?_⟩
                        refine and_h h (fun g => (by subst hO; exact g)) (fun h => ?_)
                        refine join_all hO ?_
                        conv => cbv
                        exact hLn4 n4 _ _ (Nat.lt_succ_self n4) ⟨y100, y101, y102, (z94 ++ (List.take 1 [[(CV.v (.int .i64 y97)), (CV.v (.int .i64 y98)), (CV.sl 3 y99 none)]])), binStd .add .i64 z95 1, (.inr ⟨(by (conv => lhs; cbv) <;> (subst hO; rfl)), (by (conv => lhs; cbv) <;> (subst hO; rfl))⟩), h⟩
                      · conv => cbv
                        exact hL_7 _ _ ⟨z91, z92, z93, j90, y79, z94, (.inr ⟨(by (conv => lhs; cbv) <;> (subst hO; rfl)), (by (conv => lhs; cbv) <;> (subst hO; rfl))⟩), h⟩
            · conv => cbv
              exact hL_7 _ _ ⟨y8, y9, y10, binStd .sub .i64 x4 1, ⟨#[]⟩, nilE, (.inl ⟨rfl, (by (conv => lhs; cbv) <;> (subst hO; rfl)), (by (conv => lhs; cbv) <;> (subst hO; rfl))⟩), h⟩
            · rintro tm m ⟨j56, j57, j58, j59, j60, j61, hs, h⟩
              unfold p115_7 at h
              rcases hs with hs | hs
              · obtain ⟨rfl, rfl, rfl⟩ := hs
                conv => cbv
                refine join_all hO ?_
                conv => cbv
                refine join_all hO ?_
                conv => cbv
                refine loop_of hO tiA [0, 1, 2, 6, 7, 10] [0, 1, 7000, 8000, 102000] [] (fun (n : Nat) tm m => ∃ (z62 : EL) (z63 : Int) (z64 : Int) (z65 : Int) (z66 : EL) (z67 : Int), ((z66 = [] ∧ tm = frame 0 104 [(0, .p 0 0 0), (1, .c (.v (.int .i64 x3))), (2, .p 1 1 0), (6, .p 7000 2 0), (7, .p 8000 2 0), (10, .c (.v (.int .i64 z67)))] ∧ m = ⟨[(0, .blk 0 [.c (.sl 1 z62 none), .c (.v (.int .i64 z63)), .c (.v (.int .i64 z64))]), (1, .blk 1 [.c (.v (.int .i64 z65))]), (7000, .blk 2 [.c (.v (.int .i64 0)), .c (.v (.int .i64 0)), .c (.v (.string ⟨#[]⟩)), .c (.sl 3 [] (some [])), .c (.sl 5 [] (some []))]), (8000, .blk 2 [.c (.v (.int .i64 y7)), .c (.v (.int .i64 0)), .c (.v (.string j60)), .c (.sl 3 [] (some [])), .c (.sl 5 [] (some []))])], 3⟩) ∨ (tm = frame 0 104 [(0, .p 0 0 0), (1, .c (.v (.int .i64 x3))), (2, .p 1 1 0), (6, .p 7000 2 0), (7, .p 8000 2 0), (10, .c (.v (.int .i64 z67)))] ∧ m = ⟨[(0, .blk 0 [.c (.sl 1 z62 none), .c (.v (.int .i64 z63)), .c (.v (.int .i64 z64))]), (1, .blk 1 [.c (.v (.int .i64 z65))]), (7000, .blk 2 [.c (.v (.int .i64 0)), .c (.v (.int .i64 0)), .c (.v (.string ⟨#[]⟩)), .c (.sl 3 [] (some [])), .c (.sl 5 [] (some []))]), (8000, .blk 2 [.c (.v (.int .i64 y7)), .c (.v (.int .i64 0)), .c (.v (.string j60)), .c (.sl 3 [] (some [])), .t 102000 2 (O.len z66)]), (102000, .arr 2 5 z66 none false)], 3⟩)) ∧ p115_6L False fu (p115 False fu) K0 x3 y7 j60 nilE n z62 z63 z64 z65 z66 z67) (fun n => n) fu ⟨j56, j57, j58, j59, nilE, 0, (.inl ⟨rfl, (by (conv => lhs; cbv) <;> (subst hO; rfl)), (by (conv => lhs; cbv) <;> (subst hO; rfl))⟩), h⟩ ?_
                rintro n3 tm m L ⟨z62, z63, z64, z65, z66, z67, hs, h⟩ hLn3
                cases n3 with
                | zero => rw [p115_6L] at h; exact h.elim
                | succ n3 =>
                  rw [p115_6L] at h
                  unfold p115_6 at h
                  rcases hs with hs | hs
                  · obtain ⟨rfl, rfl, rfl⟩ := hs
                    conv => cbv
                    refine reg_join hO tiA [0, 1, 2, 6, 7, 10, 90] [0, 1, 7000, 8000] [] (fun tm m => ∃ (j68 : Bool), ((tm = frame 0 104 [(0, .p 0 0 0), (1, .c (.v (.int .i64 x3))), (2, .p 1 1 0), (6, .p 7000 2 0), (7, .p 8000 2 0), (10, .c (.v (.int .i64 z67))), (90, .c (.v (.bool j68)))] ∧ m = ⟨[(0, .blk 0 [.c (.sl 1 z62 none), .c (.v (.int .i64 z63)), .c (.v (.int .i64 z64))]), (1, .blk 1 [.c (.v (.int .i64 z65))]), (7000, .blk 2 [.c (.v (.int .i64 0)), .c (.v (.int .i64 0)), .c (.v (.string ⟨#[]⟩)), .c (.sl 3 [] (some [])), .c (.sl 5 [] (some []))]), (8000, .blk 2 [.c (.v (.int .i64 y7)), .c (.v (.int .i64 0)), .c (.v (.string j60)), .c (.sl 3 [] (some [])), .c (.sl 5 [] (some []))])], 3⟩)) ∧ p115_5 False fu (p115 False fu) K0 (p115_6L False fu (p115 False fu) K0  x3 y7 j60 nilE n3) x3 y7 j60 nilE z62 z63 z64 z65 nilE z67 j68) (fun L hL_5 => ?_) ?_
                    · conv => cbv
                      refine call_h hO [.shut] (d_p136 fu O.len hN h) ?_
                      intro os Q hos hQ
                      conv => cbv
                      refine ⟨(by (rw [hos]) <;> (subst hO; rfl)), ?_⟩
                      intro r bs hq
                      rw [hQ] at hq
                      clear hos hQ h
                      obtain ⟨y78, _, ⟨rfl, rfl⟩, h⟩ := hq
                      conv => cbv
                      refine br_h hO h (by subst hO; rfl) (fun hc9 h => ?_) (fun hc9 h => ?_)
                      · conv => cbv
                        refine br_t hO hc9 ?_
                        conv => cbv
                        refine br_t hO hc9 ?_
                        conv => cbv
                        refine br_t hO hc9 ?_
                        conv => cbv
                        refine br_t hO hc9 ?_
                        conv => cbv
                        refine br_t hO hc9 ?_
                        conv => cbv
                        exact hL_5 _ _ ⟨(cmpStd .eql z64 0), ⟨(by (conv => lhs; cbv) <;> (subst hO; rfl)), (by (conv => lhs; cbv) <;> (subst hO; rfl))⟩, h⟩
                      · conv => cbv
                        refine br_f hO hc9 ?_
                        conv => cbv
                        refine br_f hO hc9 ?_
                        conv => cbv
                        refine br_f hO hc9 ?_
                        conv => cbv
                        refine br_f hO hc9 ?_
                        conv => cbv
                        refine br_f hO hc9 ?_
                        conv => cbv
                        exact hL_5 _ _ ⟨false, ⟨(by (conv => lhs; cbv) <;> (subst hO; rfl)), (by (conv => lhs; cbv) <;> (subst hO; rfl))⟩, h⟩
                    · rintro tm m ⟨j68, hs, h⟩
                      unfold p115_5 at h
                      obtain ⟨rfl, rfl⟩ := hs
                      conv => cbv
                      refine br_h hO h (by subst hO; rfl) (fun hc8 h => ?_) (fun hc8 h => ?_)
                      · conv => cbv
                        refine join_all hO ?_
                        conv => cbv
                        refine drawn_of hO tiA [[0, 1], [], [], [], []] [(0, true, false), (1, true, false), (2, true, false), (3, true, false), (4, true, false), (5, true, false), (6, false, false), (7, false, false), (8, false, true), (9, true, true), (10, false, true)] (by kernel_rfl) ?_
                        conv => cbv
                        refine call_h hO [.ref 3, .shut, .ref 1] (ih_p115 O.len hN h) ?_
                        intro os Q hos hQ
                        conv => cbv
                        refine ⟨(by (rw [hos]) <;> (subst hO; rfl)), ?_⟩
                        intro r bs hq
                        rw [hQ] at hq
                        clear hos hQ h
                        obtain ⟨y69, y70, y71, y72, y73, y74, y75, y76, y77, _, ⟨rfl, rfl⟩, h⟩ := hq
                        conv => cbv
                        refine ⟨agree_of hO (Nat.le_of_ble_eq_true rfl) rfl, ?_⟩
                        refine ⟨agree_of hO (Nat.le_of_ble_eq_true rfl) rfl, ?_⟩
                        refine view_h hO h (fun g => (by subst hO; exact g)) (fun h => ?_)
                        conv => cbv
                        refine and_h h (fun g => (by subst hO; exact g)) (fun h => ?_)
                        refine emp_no hO (by subst hO; exact List.cons_ne_nil _ _) ?_
                        conv => cbv
                        refine join_all hO ?_
                        conv => cbv
                        exact hLn3 n3 _ _ (Nat.lt_succ_self n3) ⟨y74, y75, y76, y77, (nilE ++ (List.take 1 [[(CV.v (.int .i64 y69)), (CV.v (.int .i64 y70)), (CV.v (.string y71)), (CV.sl 3 y72 none), (CV.sl 5 y73 none)]])), binStd .add .i64 z67 1, (.inr ⟨(by (conv => lhs; cbv) <;> (subst hO; rfl)), (by (conv => lhs; cbv) <;> (subst hO; rfl))⟩), h⟩
                      · conv => cbv
                        rw [hQ]
                        exact ⟨y7, 0, j60, nilE, nilE, z62, z63, z64, z65, _, ⟨(by subst hO; rfl), (by subst hO; rfl)⟩, h⟩
                  · obtain ⟨rfl, rfl⟩ := hs
                    conv => cbv
                    refine reg_join hO tiA [0, 1, 2, 6, 7, 10, 90] [0, 1, 7000, 8000, 102000] [] (fun tm m => ∃ (j68 : Bool), ((tm = frame 0 104 [(0, .p 0 0 0), (1, .c (.v (.int .i64 x3))), (2, .p 1 1 0), (6, .p 7000 2 0), (7, .p 8000 2 0), (10, .c (.v (.int .i64 z67))), (90, .c (.v (.bool j68)))] ∧ m = ⟨[(0, .blk 0 [.c (.sl 1 z62 none), .c (.v (.int .i64 z63)), .c (.v (.int .i64 z64))]), (1, .blk 1 [.c (.v (.int .i64 z65))]), (7000, .blk 2 [.c (.v (.int .i64 0)), .c (.v (.int .i64 0)), .c (.v (.string ⟨#[]⟩)), .c (.sl 3 [] (some [])), .c (.sl 5 [] (some []))]), (8000, .blk 2 [.c (.v (.int .i64 y7)), .c (.v (.int .i64 0)), .c (.v (.string j60)), .c (.sl 3 [] (some [])), .t 102000 2 (O.len z66)]), (102000, .arr 2 5 z66 none false)], 3⟩)) ∧ p115_5 False fu (p115 False fu) K0 (p115_6L False fu (p115 False fu) K0  x3 y7 j60 nilE n3) x3 y7 j60 nilE z62 z63 z64 z65 z66 z67 j68) (fun L hL_5 => ?_) ?_
                    · conv => cbv
                      refine call_h hO [.shut] (d_p136 fu O.len hN h) ?_
                      intro os Q hos hQ
                      conv => cbv
                      refine ⟨(by (rw [hos]) <;> (subst hO; rfl)), ?_⟩
                      intro r bs hq
                      rw [hQ] at hq
                      clear hos hQ h
                      obtain ⟨y78, _, ⟨rfl, rfl⟩, h⟩ := hq
                      conv => cbv
                      refine br_h hO h (by subst hO; rfl) (fun hc9 h => ?_) (fun hc9 h => ?_)
                      · conv => cbv
                        refine br_t hO hc9 ?_
                        conv => cbv
                        refine br_t hO hc9 ?_
                        conv => cbv
                        refine br_t hO hc9 ?_
                        conv => cbv
                        refine br_t hO hc9 ?_
                        conv => cbv
                        refine br_t hO hc9 ?_
                        conv => cbv
                        exact hL_5 _ _ ⟨(cmpStd .eql z64 0), ⟨(by (conv => lhs; cbv) <;> (subst hO; rfl)), (by (conv => lhs; cbv) <;> (subst hO; rfl))⟩, h⟩
                      · conv => cbv
                        refine br_f hO hc9 ?_
                        conv => cbv
                        refine br_f hO hc9 ?_
                        conv => cbv
                        refine br_f hO hc9 ?_
                        conv => cbv
                        refine br_f hO hc9 ?_
                        conv => cbv
                        refine br_f hO hc9 ?_
                        conv => cbv
                        exact hL_5 _ _ ⟨false, ⟨(by (conv => lhs; cbv) <;> (subst hO; rfl)), (by (conv => lhs; cbv) <;> (subst hO; rfl))⟩, h⟩
                    · rintro tm m ⟨j68, hs, h⟩
                      unfold p115_5 at h
                      obtain ⟨rfl, rfl⟩ := hs
                      conv => cbv
                      refine br_h hO h (by subst hO; rfl) (fun hc8 h => ?_) (fun hc8 h => ?_)
                      · conv => cbv
                        refine join_all hO ?_
                        conv => cbv
                        refine drawn_of hO tiA [[0, 1], [], [], [], []] [(0, true, false), (1, true, false), (2, true, false), (3, true, false), (4, true, false), (5, true, false), (6, false, false), (7, false, false), (8, false, true), (9, true, true), (10, false, true)] (by kernel_rfl) ?_
                        conv => cbv
                        refine call_h hO [.ref 3, .shut, .ref 1] (ih_p115 O.len hN h) ?_
                        intro os Q hos hQ
                        conv => cbv
                        refine ⟨(by (rw [hos]) <;> (subst hO; rfl)), ?_⟩
                        intro r bs hq
                        rw [hQ] at hq
                        clear hos hQ h
                        obtain ⟨y69, y70, y71, y72, y73, y74, y75, y76, y77, _, ⟨rfl, rfl⟩, h⟩ := hq
                        conv => cbv
                        refine ⟨agree_of hO (Nat.le_of_ble_eq_true rfl) rfl, ?_⟩
                        refine ⟨agree_of hO (Nat.le_of_ble_eq_true rfl) rfl, ?_⟩
                        refine view_h hO h (fun g => (by subst hO; exact g)) (fun h => ?_)
                        conv => cbv
                        refine ⟨(by subst hO; rfl), ?_⟩
                        refine and_h h (fun g => (by subst hO; exact g)) (fun h => ?_)
                        refine join_all hO ?_
                        conv => cbv
                        exact hLn3 n3 _ _ (Nat.lt_succ_self n3) ⟨y74, y75, y76, y77, (z66 ++ (List.take 1 [[(CV.v (.int .i64 y69)), (CV.v (.int .i64 y70)), (CV.v (.string y71)), (CV.sl 3 y72 none), (CV.sl 5 y73 none)]])), binStd .add .i64 z67 1, (.inr ⟨(by (conv => lhs; cbv) <;> (subst hO; rfl)), (by (conv => lhs; cbv) <;> (subst hO; rfl))⟩), h⟩
                      · conv => cbv
                        refine view_full hO ?_
                        conv => cbv
                        rw [hQ]
                        exact ⟨y7, 0, j60, nilE, z66, z62, z63, z64, z65, _, ⟨(by subst hO; rfl), (by subst hO; rfl)⟩, h⟩
              · obtain ⟨rfl, rfl⟩ := hs
                conv => cbv
                refine join_all hO ?_
                conv => cbv
                refine join_all hO ?_
                conv => cbv
                refine loop_of hO tiA [0, 1, 2, 6, 7, 10] [0, 1, 7000, 8000, 78000, 102000] [] (fun (n : Nat) tm m => ∃ (z62 : EL) (z63 : Int) (z64 : Int) (z65 : Int) (z66 : EL) (z67 : Int), ((z66 = [] ∧ tm = frame 0 104 [(0, .p 0 0 0), (1, .c (.v (.int .i64 x3))), (2, .p 1 1 0), (6, .p 7000 2 0), (7, .p 8000 2 0), (10, .c (.v (.int .i64 z67)))] ∧ m = ⟨[(0, .blk 0 [.c (.sl 1 z62 none), .c (.v (.int .i64 z63)), .c (.v (.int .i64 z64))]), (1, .blk 1 [.c (.v (.int .i64 z65))]), (7000, .blk 2 [.c (.v (.int .i64 0)), .c (.v (.int .i64 0)), .c (.v (.string ⟨#[]⟩)), .c (.sl 3 [] (some [])), .c (.sl 5 [] (some []))]), (8000, .blk 2 [.c (.v (.int .i64 y7)), .c (.v (.int .i64 0)), .c (.v (.string j60)), .t 78000 2 (O.len j61), .c (.sl 5 [] (some []))]), (78000, .arr 2 3 j61 none false)], 3⟩) ∨ (tm = frame 0 104 [(0, .p 0 0 0), (1, .c (.v (.int .i64 x3))), (2, .p 1 1 0), (6, .p 7000 2 0), (7, .p 8000 2 0), (10, .c (.v (.int .i64 z67)))] ∧ m = ⟨[(0, .blk 0 [.c (.sl 1 z62 none), .c (.v (.int .i64 z63)), .c (.v (.int .i64 z64))]), (1, .blk 1 [.c (.v (.int .i64 z65))]), (7000, .blk 2 [.c (.v (.int .i64 0)), .c (.v (.int .i64 0)), .c (.v (.string ⟨#[]⟩)), .c (.sl 3 [] (some [])), .c (.sl 5 [] (some []))]), (8000, .blk 2 [.c (.v (.int .i64 y7)), .c (.v (.int .i64 0)), .c (.v (.string j60)), .t 78000 2 (O.len j61), .t 102000 2 (O.len z66)]), (78000, .arr 2 3 j61 none false), (102000, .arr 2 5 z66 none false)], 3⟩)) ∧ p115_6L False fu (p115 False fu) K0 x3 y7 j60 j61 n z62 z63 z64 z65 z66 z67) (fun n => n) fu ⟨j56, j57, j58, j59, nilE, 0, (.inl ⟨rfl, (by (conv => lhs; cbv) <;> (subst hO; rfl)), (by (conv => lhs; cbv) <;> (subst hO; rfl))⟩), h⟩ ?_
                rintro n3 tm m L ⟨z62, z63, z64, z65, z66, z67, hs, h⟩ hLn3
                cases n3 with
                | zero => rw [p115_6L] at h; exact h.elim
                | succ n3 =>
                  rw [p115_6L] at h
                  unfold p115_6 at h
                  rcases hs with hs | hs
                  · obtain ⟨rfl, rfl, rfl⟩ := hs
                    conv => cbv
                    refine reg_join hO tiA [0, 1, 2, 6, 7, 10, 90] [0, 1, 7000, 8000, 78000] [] (fun tm m => ∃ (j68 : Bool), ((tm = frame 0 104 [(0, .p 0 0 0), (1, .c (.v (.int .i64 x3))), (2, .p 1 1 0), (6, .p 7000 2 0), (7, .p 8000 2 0), (10, .c (.v (.int .i64 z67))), (90, .c (.v (.bool j68)))] ∧ m = ⟨[(0, .blk 0 [.c (.sl 1 z62 none), .c (.v (.int .i64 z63)), .c (.v (.int .i64 z64))]), (1, .blk 1 [.c (.v (.int .i64 z65))]), (7000, .blk 2 [.c (.v (.int .i64 0)), .c (.v (.int .i64 0)), .c (.v (.string ⟨#[]⟩)), .c (.sl 3 [] (some [])), .c (.sl 5 [] (some []))]), (8000, .blk 2 [.c (.v (.int .i64 y7)), .c (.v (.int .i64 0)), .c (.v (.string j60)), .t 78000 2 (O.len j61), .c (.sl 5 [] (some []))]), (78000, .arr 2 3 j61 none false)], 3⟩)) ∧ p115_5 False fu (p115 False fu) K0 (p115_6L False fu (p115 False fu) K0  x3 y7 j60 j61 n3) x3 y7 j60 j61 z62 z63 z64 z65 nilE z67 j68) (fun L hL_5 => ?_) ?_
                    · conv => cbv
                      refine call_h hO [.shut] (d_p136 fu O.len hN h) ?_
                      intro os Q hos hQ
                      conv => cbv
                      refine ⟨(by (rw [hos]) <;> (subst hO; rfl)), ?_⟩
                      intro r bs hq
                      rw [hQ] at hq
                      clear hos hQ h
                      obtain ⟨y78, _, ⟨rfl, rfl⟩, h⟩ := hq
                      conv => cbv
                      refine br_h hO h (by subst hO; rfl) (fun hc9 h => ?_) (fun hc9 h => ?_)
                      · conv => cbv
                        refine br_t hO hc9 ?_
                        conv => cbv
                        refine br_t hO hc9 ?_
                        conv => cbv
                        refine br_t hO hc9 ?_
                        conv => cbv
                        refine br_t hO hc9 ?_
                        conv => cbv
                        refine br_t hO hc9 ?_
                        conv => cbv
                        exact hL_5 _ _ ⟨(cmpStd .eql z64 0), ⟨(by (conv => lhs; cbv) <;> (subst hO; rfl)), (by (conv => lhs; cbv) <;> (subst hO; rfl))⟩, h⟩
                      · conv => cbv
                        refine br_f hO hc9 ?_
                        conv => cbv
                        refine br_f hO hc9 ?_
                        conv => cbv
                        refine br_f hO hc9 ?_
                        conv => cbv
                        refine br_f hO hc9 ?_
                        conv => cbv
                        refine br_f hO hc9 ?_
                        conv => cbv
                        exact hL_5 _ _ ⟨false, ⟨(by (conv => lhs; cbv) <;> (subst hO; rfl)), (by (conv => lhs; cbv) <;> (subst hO; rfl))⟩, h⟩
                    · rintro tm m ⟨j68, hs, h⟩
                      unfold p115_5 at h
                      obtain ⟨rfl, rfl⟩ := hs
                      conv => cbv
                      refine br_h hO h (by subst hO; rfl) (fun hc8 h => ?_) (fun hc8 h => ?_)
                      · conv => cbv
                        refine join_all hO ?_
                        conv => cbv
                        refine drawn_of hO tiA [[0, 1], [], [], [], []] [(0, true, false), (1, true, false), (2, true, false), (3, true, false), (4, true, false), (5, true, false), (6, false, false), (7, false, false), (8, false, true), (9, true, true), (10, false, true)] (by kernel_rfl) ?_
                        conv => cbv
                        refine call_h hO [.ref 3, .shut, .ref 1] (ih_p115 O.len hN h) ?_
                        intro os Q hos hQ
                        conv => cbv
                        refine ⟨(by (rw [hos]) <;> (subst hO; rfl)), ?_⟩
                        intro r bs hq
                        rw [hQ] at hq
                        clear hos hQ h
                        obtain ⟨y69, y70, y71, y72, y73, y74, y75, y76, y77, _, ⟨rfl, rfl⟩, h⟩ := hq
                        conv => cbv
                        refine ⟨agree_of hO (Nat.le_of_ble_eq_true rfl) rfl, ?_⟩
                        refine ⟨agree_of hO (Nat.le_of_ble_eq_true rfl) rfl, ?_⟩
                        refine view_h hO h (fun g => (by subst hO; exact g)) (fun h => ?_)
                        conv => cbv
                        refine and_h h (fun g => (by subst hO; exact g)) (fun h => ?_)
                        refine emp_no hO (by subst hO; exact List.cons_ne_nil _ _) ?_
                        conv => cbv
                        refine join_all hO ?_
                        conv => cbv
                        exact hLn3 n3 _ _ (Nat.lt_succ_self n3) ⟨y74, y75, y76, y77, (nilE ++ (List.take 1 [[(CV.v (.int .i64 y69)), (CV.v (.int .i64 y70)), (CV.v (.string y71)), (CV.sl 3 y72 none), (CV.sl 5 y73 none)]])), binStd .add .i64 z67 1, (.inr ⟨(by (conv => lhs; cbv) <;> (subst hO; rfl)), (by (conv => lhs; cbv) <;> (subst hO; rfl))⟩), h⟩
                      · conv => cbv
                        refine view_full hO ?_
                        conv => cbv
                        rw [hQ]
                        exact ⟨y7, 0, j60, j61, nilE, z62, z63, z64, z65, _, ⟨(by subst hO; rfl), (by subst hO; rfl)⟩, h⟩
                  · obtain ⟨rfl, rfl⟩ := hs
                    conv => cbv
                    refine reg_join hO tiA [0, 1, 2, 6, 7, 10, 90] [0, 1, 7000, 8000, 78000, 102000] [] (fun tm m => ∃ (j68 : Bool), ((tm = frame 0 104 [(0, .p 0 0 0), (1, .c (.v (.int .i64 x3))), (2, .p 1 1 0), (6, .p 7000 2 0), (7, .p 8000 2 0), (10, .c (.v (.int .i64 z67))), (90, .c (.v (.bool j68)))] ∧ m = ⟨[(0, .blk 0 [.c (.sl 1 z62 none), .c (.v (.int .i64 z63)), .c (.v (.int .i64 z64))]), (1, .blk 1 [.c (.v (.int .i64 z65))]), (7000, .blk 2 [.c (.v (.int .i64 0)), .c (.v (.int .i64 0)), .c (.v (.string ⟨#[]⟩)), .c (.sl 3 [] (some [])), .c (.sl 5 [] (some []))]), (8000, .blk 2 [.c (.v (.int .i64 y7)), .c (.v (.int .i64 0)), .c (.v (.string j60)), .t 78000 2 (O.len j61), .t 102000 2 (O.len z66)]), (78000, .arr 2 3 j61 none false), (102000, .arr 2 5 z66 none false)], 3⟩)) ∧ p115_5 False fu (p115 False fu) K0 (p115_6L False fu (p115 False fu) K0  x3 y7 j60 j61 n3) x3 y7 j60 j61 z62 z63 z64 z65 z66 z67 j68) (fun L hL_5 => ?_) ?_
                    · conv => cbv
                      refine call_h hO [.shut] (d_p136 fu O.len hN h) ?_
                      intro os Q hos hQ
                      conv => cbv
                      refine ⟨(by (rw [hos]) <;> (subst hO; rfl)), ?_⟩
                      intro r bs hq
                      rw [hQ] at hq
                      clear hos hQ h
                      obtain ⟨y78, _, ⟨rfl, rfl⟩, h⟩ := hq
                      conv => cbv
                      refine br_h hO h (by subst hO; rfl) (fun hc9 h => ?_) (fun hc9 h => ?_)
                      · conv => cbv
                        refine br_t hO hc9 ?_
                        conv => cbv
                        refine br_t hO hc9 ?_
                        conv => cbv
                        refine br_t hO hc9 ?_
                        conv => cbv
                        refine br_t hO hc9 ?_
                        conv => cbv
                        refine br_t hO hc9 ?_
                        conv => cbv
                        exact hL_5 _ _ ⟨(cmpStd .eql z64 0), ⟨(by (conv => lhs; cbv) <;> (subst hO; rfl)), (by (conv => lhs; cbv) <;> (subst hO; rfl))⟩, h⟩
                      · conv => cbv
                        refine br_f hO hc9 ?_
                        conv => cbv
                        refine br_f hO hc9 ?_
                        conv => cbv
                        refine br_f hO hc9 ?_
                        conv => cbv
                        refine br_f hO hc9 ?_
                        conv => cbv
                        refine br_f hO hc9 ?_
                        conv => cbv
                        exact hL_5 _ _ ⟨false, ⟨(by (conv => lhs; cbv) <;> (subst hO; rfl)), (by (conv => lhs; cbv) <;> (subst hO; rfl))⟩, h⟩
                    · rintro tm m ⟨j68, hs, h⟩
                      unfold p115_5 at h
                      obtain ⟨rfl, rfl⟩ := hs
                      conv => cbv
                      refine br_h hO h (by subst hO; rfl) (fun hc8 h => ?_) (fun hc8 h => ?_)
                      · conv => cbv
                        refine join_all hO ?_
                        conv => cbv
                        refine drawn_of hO tiA [[0, 1], [], [], [], []] [(0, true, false), (1, true, false), (2, true, false), (3, true, false), (4, true, false), (5, true, false), (6, false, false), (7, false, false), (8, false, true), (9, true, true), (10, false, true)] (by kernel_rfl) ?_
                        conv => cbv
                        refine call_h hO [.ref 3, .shut, .ref 1] (ih_p115 O.len hN h) ?_
                        intro os Q hos hQ
                        conv => cbv
                        refine ⟨(by (rw [hos]) <;> (subst hO; rfl)), ?_⟩
                        intro r bs hq
                        rw [hQ] at hq
                        clear hos hQ h
                        obtain ⟨y69, y70, y71, y72, y73, y74, y75, y76, y77, _, ⟨rfl, rfl⟩, h⟩ := hq
                        conv => cbv
                        refine ⟨agree_of hO (Nat.le_of_ble_eq_true rfl) rfl, ?_⟩
                        refine ⟨agree_of hO (Nat.le_of_ble_eq_true rfl) rfl, ?_⟩
                        refine view_h hO h (fun g => (by subst hO; exact g)) (fun h => ?_)
                        conv => cbv
                        refine ⟨(by subst hO; rfl), ?_⟩
                        refine and_h h (fun g => (by subst hO; exact g)) (fun h => ?_)
                        refine join_all hO ?_
                        conv => cbv
                        exact hLn3 n3 _ _ (Nat.lt_succ_self n3) ⟨y74, y75, y76, y77, (z66 ++ (List.take 1 [[(CV.v (.int .i64 y69)), (CV.v (.int .i64 y70)), (CV.v (.string y71)), (CV.sl 3 y72 none), (CV.sl 5 y73 none)]])), binStd .add .i64 z67 1, (.inr ⟨(by (conv => lhs; cbv) <;> (subst hO; rfl)), (by (conv => lhs; cbv) <;> (subst hO; rfl))⟩), h⟩
                      · conv => cbv
                        refine view_full hO ?_
                        conv => cbv
                        refine view_full hO ?_
                        conv => cbv
                        rw [hQ]
                        exact ⟨y7, 0, j60, j61, z66, z62, z63, z64, z65, _, ⟨(by subst hO; rfl), (by subst hO; rfl)⟩, h⟩
theorem dd_p115 (fu : Nat) : D_p115 fu := by
  induction fu with
  | zero => unfold D_p115; intros; rename_i h; rw [p115] at h; exact h.elim
  | succ n ih =>
    exact (by unfold D_p115; intro K0 L hN x0 x1 x2 x3 x4 h; exact b_p115 n ih L hN (by rw [p115] at h; exact h))
theorem d_p115 (fu : Nat) {K0 : Int → Int → ByteArray → EL → EL → EL → Int → Int → Int → Prop} (L : EL → Nat) (hL : L = List.length) {x0 : EL} {x1 : Int} {x2 : Int} {x3 : Int} {x4 : Int} (h : p115 False fu K0 x0 x1 x2 x3 x4) : Den Try.prog G0 115 [.ptr [.c (.sl 1 x0 none), .c (.v (.int .i64 x1)), .c (.v (.int .i64 x2))], .c (.v (.int .i64 x3)), .ptr [.c (.v (.int .i64 x4))]] (fun r bs => (∃ (y0 : Int) (y1 : Int) (y2 : ByteArray) (y3 : EL) (y4 : EL) (y5 : EL) (y6 : Int) (y7 : Int) (y8 : Int) (o1 : OV), (r = .agg [.c (.v (.int .i64 y0)), .c (.v (.int .i64 y1)), .c (.v (.string y2)), .c (.sl 3 y3 none), .c (.sl 5 y4 none)] ∧ bs = [.ptr [.c (.sl 1 y5 none), .c (.v (.int .i64 y6)), .c (.v (.int .i64 y7))], o1, .ptr [.c (.v (.int .i64 y8))]]) ∧ K0 y0 y1 y2 y3 y4 y5 y6 y7 y8)) := dd_p115 fu L hL h
end Go.Proofs.Ythncmjlcmlmnmaa

