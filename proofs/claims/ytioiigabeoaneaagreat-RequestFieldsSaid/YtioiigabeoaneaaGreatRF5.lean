/- A part of the proof. Conditions: none. -/
import Derived.Test.YtioiigabeoaneaaGreatRF4
import Derived.KernelRfl
namespace Go.Proofs.YtioiigabeoaneaaGreat
open Go V
set_option maxRecDepth 100000
set_option maxHeartbeats 4000000
def p53_1 {ρ:Type} (fail:ρ) (fu:Nat) (K0:KT4 ρ) (rec1:EL→Int→EL→Int→ρ) (i0:EL) (j0:Int) (a0:ByteArray) (l0:EL) (m0 c0 d0:Int) (e0:ByteArray) (f0 g0:EL):ρ :=
 gd (1≤[[(CV.v (.string a0)),(CV.v (.int .i64 c0)),(CV.v (.int .i64 d0)),(CV.v (.string e0)),(CV.sl 3 f0 none),(CV.sl 5 g0 none)]].length) fail (gd ((i0.length + (List.take 1 [[(CV.v (.string a0)),(CV.v (.int .i64 c0)),(CV.v (.int .i64 d0)),(CV.v (.string e0)),(CV.sl 3 f0 none),(CV.sl 5 g0 none)]]).length) * 96≤35184372088832) fail (rec1 l0 m0 (i0++(List.take 1 [[(CV.v (.string a0)),(CV.v (.int .i64 c0)),(CV.v (.int .i64 d0)),(CV.v (.string e0)),(CV.sl 3 f0 none),(CV.sl 5 g0 none)]])) (B8 .add .i64 j0 1)))
def p53_2 {ρ:Type} (fail:ρ) (fu:Nat) (K0:KT4 ρ) (rec1:EL→Int→EL→Int→ρ) (y1 y4 y7:Int) (g0 i0:ByteArray) (j0 l0:Int) (m0:ByteArray) (n0 o0:EL) (q0 r0:Int) (s0:ByteArray) (t0 v0:EL) (y0:Int) (d0:EL) (a0:Int) (c0:EL) (e0:Int):ρ :=
 bif (B0 .lss e0 y0) then (bif (B0 .neq a0 0) then (K0 y1 y4 y7 g0 i0 j0 l0 m0 n0 o0 q0 r0 s0 t0 v0 c0 d0 a0) else (p55 fail fu (fun z0 w0 f0=>z6z fail z0 (fun x0=>bif (B0 .eql f0 0) then (p54 fail fu (fun a1 c1 d1 e1 f1 g1 i1=>p53_1 fail fu K0 rec1 c0 e0 x0 g1 i1 a1 c1 d1 e1 f1) w0 f0) else (p53_1 fail fu K0 rec1 c0 e0 x0 w0 f0 0 0 ⟨#[]⟩ nilE nilE))) d0 a0 24)) else (K0 y1 y4 y7 g0 i0 j0 l0 m0 n0 o0 q0 r0 s0 t0 v0 c0 d0 a0)
def p53_2L {ρ:Type} (fail:ρ) (fu:Nat) (K0:KT4 ρ) (y1 y4 y7:Int) (a0 c0:ByteArray) (d0 e0:Int) (f0:ByteArray) (g0 i0:EL) (j0 l0:Int) (m0:ByteArray) (n0 o0:EL) (q0:Int):Nat→EL→Int→EL→Int→ρ
 | 0,_,_,_,_=>fail
 | n + 1,r0,s0,t0,v0=>p53_2 fail fu K0 (p53_2L fail fu K0 y1 y4 y7 a0 c0 d0 e0 f0 g0 i0 j0 l0 m0 n0 o0 q0 n) y1 y4 y7 a0 c0 d0 e0 f0 g0 i0 j0 l0 m0 n0 o0 q0 r0 s0 t0 v0
def p53_3 {ρ:Type} (fail:ρ) (fu:Nat) (K0:KT4 ρ) (y1 y4 y7:Int) (a0 c0:ByteArray) (d0 e0:Int) (f0:ByteArray) (g0 i0:EL) (j0 l0:Int) (m0:ByteArray) (n0 o0:EL) (q0:Int) (r0:EL) (s0:Int):ρ :=
 p53_2L fail fu K0 y1 y4 y7 a0 c0 d0 e0 f0 g0 i0 j0 l0 m0 n0 o0 q0 fu r0 s0 nilE 0
def p53_4 {ρ:Type} (fail:ρ) (fu:Nat) (K0:KT4 ρ) (y1 y4 y7:Int) (c0 d0:ByteArray) (e0 f0:Int) (g0:ByteArray) (i0 j0 t0:EL) (v0 l0 m0:Int) (n0:ByteArray) (o0 q0:EL):ρ :=
 p51 fail fu (fun a0 r0 s0=>bif (B0 .gtr a0 5) then (p50 fail fu (fun w0 x0=>p53_3 fail fu K0 y1 y4 y7 c0 d0 e0 f0 g0 i0 j0 l0 m0 n0 o0 q0 a0 w0 x0) r0 s0 3) else (p53_3 fail fu K0 y1 y4 y7 c0 d0 e0 f0 g0 i0 j0 l0 m0 n0 o0 q0 a0 r0 s0)) t0 v0
def p53_5 {ρ:Type} (fail:ρ) (fu:Nat) (K0:KT4 ρ) (y1 y4 y7:Int) (a0 c0:ByteArray) (d0 e0:Int) (f0:ByteArray) (g0 i0 j0:EL) (l0:Int) (m0:Bool):ρ :=
 bif m0 then (p54 fail fu (fun n0 o0 q0 r0 s0 t0 v0=>p53_4 fail fu K0 y1 y4 y7 a0 c0 d0 e0 f0 g0 i0 t0 v0 n0 o0 q0 r0 s0) j0 l0) else (p53_4 fail fu K0 y1 y4 y7 a0 c0 d0 e0 f0 g0 i0 j0 l0 0 0 ⟨#[]⟩ nilE nilE)
def p53_6 {ρ:Type} (fail:ρ) (fu:Nat) (K0:KT4 ρ) (y1 y4 y7:Int) (c0 d0:ByteArray) (e0 f0:Int) (g0:ByteArray) (i0 j0:EL) (m0:Int) (l0:EL) (a0:Int):ρ :=
 bif (B0 .eql a0 0) then (p53_5 fail fu K0 y1 y4 y7 c0 d0 e0 f0 g0 i0 j0 l0 a0 (B0 .eql m0 1)) else (p53_5 fail fu K0 y1 y4 y7 c0 d0 e0 f0 g0 i0 j0 l0 a0 false)
def p53_7 {ρ:Type} (fail:ρ) (fu:Nat) (K0:KT4 ρ) (y1 y4 y7:Int) (a0 c0:ByteArray) (d0 e0:Int) (f0:ByteArray) (g0 i0:EL) (j0:Int) (l0:EL) (m0:Int) (n0:Bool):ρ :=
 bif n0 then (p50 fail fu (fun o0 q0=>p53_6 fail fu K0 y1 y4 y7 a0 c0 d0 e0 f0 g0 i0 j0 o0 q0) l0 m0 5) else (p53_6 fail fu K0 y1 y4 y7 a0 c0 d0 e0 f0 g0 i0 j0 l0 m0)
def p53_8 {ρ:Type} (fail:ρ) (fu:Nat) (K0:KT4 ρ) (y1 y4 y7:Int) (c0 d0:ByteArray) (n0:EL) (o0 e0 f0:Int) (g0:ByteArray) (i0 j0:EL):ρ :=
 p84 fail fu (fun a0 l0 m0=>bif (B0 .gtr a0 1) then (p53_7 fail fu K0 y1 y4 y7 c0 d0 e0 f0 g0 i0 j0 a0 l0 m0 true) else (p53_7 fail fu K0 y1 y4 y7 c0 d0 e0 f0 g0 i0 j0 a0 l0 m0 (!((B0 .eql a0 1) == (B0 .eql y1 2))))) n0 o0
def p53 {ρ:Type} (fail:ρ) (fu:Nat) (K0:KT4 ρ) (x0:EL) (x1:Int):ρ :=
 p49 fail fu (fun y1 y2 y3=>p51 fail fu (fun y4 y5 y6=>p51 fail fu (fun y7 y8 y9=>p55 fail fu (fun f0 g0 i0=>z6z fail f0 (fun c0=>p55 fail fu (fun j0 d0 a0=>z6z fail j0 (fun e0=>bif (B0 .eql a0 0) then (p54 fail fu (fun l0 m0 n0 o0 q0 r0 s0=>p53_8 fail fu K0 y1 y4 y7 c0 e0 r0 s0 l0 m0 n0 o0 q0) d0 a0) else (p53_8 fail fu K0 y1 y4 y7 c0 e0 d0 a0 0 0 ⟨#[]⟩ nilE nilE))) g0 i0 24)) y8 y9 24) y5 y6) y2 y3) x0 x1 1 5
def p35_1 {ρ:Type} (fail:ρ) (fu:Nat) (K0:EL→ρ) (rec1:EL→Int→Int→ρ) (c0 z7:EL) (z8 z9:Int):ρ :=
 bif (B0 .lss z9 z8) then (gd (0≤z9) fail (gd (z9 < c0.length) fail (G9 fail (List.getD c0 (z9.toNat) []) (fun a0 d0 e0 f0 g0 i0=>gd (a0.size≤(E8 a0.data.toList).length) fail (p37 fail fu (fun j0=>p36 fail fu (fun l0=>rec1 l0 z8 (B8 .add .i64 z9 1)) j0 d0 e0 f0 g0 i0) z7 (List.take a0.size (E8 a0.data.toList))))))) else (K0 z7)
def p35_1L {ρ:Type} (fail:ρ) (fu:Nat) (K0:EL→ρ) (a0:EL):Nat→EL→Int→Int→ρ
 | 0,_,_,_=>fail
 | n + 1,z7,z8,z9=>p35_1 fail fu K0 (p35_1L fail fu K0 a0 n) a0 z7 z8 z9
def p35_2 {ρ:Type} (fail:ρ) (fu:Nat) (K0:EL→ρ) (a0 j5:EL):ρ :=
 gd (1≤[[(CV.v (.int .i64 ((a0.length:Nat):Int)))]].length) fail (p33 fail fu (fun y6=>p35_1L fail fu K0 a0 fu y6 ((a0.length:Nat):Int) 0) j5 (List.take 1 [[(CV.v (.int .i64 ((a0.length:Nat):Int)))]]))
def p35 {ρ:Type} (fail:ρ) (fu:Nat) (K0:EL→ρ) (x0:EL) (x1 x2 x3:Int) (x4 x5:ByteArray) (x6 x7:Int) (x8:ByteArray) (x9 c0:EL) (d0 e0:Int) (f0:ByteArray) (g0 i0 a0:EL):ρ :=
 gd (3≤[[(CV.v (.int .i64 x1))],[(CV.v (.int .i64 x2))],[(CV.v (.int .i64 x3))]].length) fail (p33 fail fu (fun y1=>gd (x4.size≤(E8 x4.data.toList).length) fail (p37 fail fu (fun y2=>gd (x5.size≤(E8 x5.data.toList).length) fail (p37 fail fu (fun y3=>p36 fail fu (fun y4=>bif (B0 .eql x1 2) then (gd (1≤[[(CV.v (.int .i64 1))]].length) fail (p33 fail fu (fun j0=>p36 fail fu (fun l0=>p35_2 fail fu K0 a0 l0) j0 d0 e0 f0 g0 i0) y4 (List.take 1 [[(CV.v (.int .i64 1))]]))) else (gd (1≤[[(CV.v (.int .i64 0))]].length) fail (p33 fail fu (fun m0=>p35_2 fail fu K0 a0 m0) y4 (List.take 1 [[(CV.v (.int .i64 0))]])))) y3 x6 x7 x8 x9 c0) y2 (List.take x5.size (E8 x5.data.toList)))) y1 (List.take x4.size (E8 x4.data.toList)))) x0 (List.take 3 [[(CV.v (.int .i64 x1))],[(CV.v (.int .i64 x2))],[(CV.v (.int .i64 x3))]]))
def E1 (c:ByteArray × Tm):List CV:=[.v (.string c.1),.v (.int .i64 c.2.k),.v (.int .i64 c.2.n),.v (.string c.2.nm),.sl 3 (Lv.rows c.2.ls) none,.sl 5 (Tm.rows c.2.args) none]
structure Dc where
 k:Int
 pa:Int
 ct:Int
 nm:ByteArray
 fam:ByteArray
 ty:Tm
 val:Tm
 cs:List (ByteArray × Tm)
abbrev DK (ρ:Type):=Int→Int→Int→ByteArray→ByteArray→Int→Int→ByteArray→EL→EL→Int→Int→ByteArray→EL→EL→EL→EL→Int→ρ
section
variable {ρ:Type} (fail:ρ) (fu:Nat) (hfu:200≤fu)
section
variable (y1 y4 y7:Int) (s13 s17:ByteArray) (j20 j21:Int) (j22:ByteArray) (j23 j24:EL)
section
variable (j34 j35:Int) (j36:ByteArray) (j37 j38:EL)
include hfu
end
include hfu
end
end
def p139b_1 {ρ:Type} (fail:ρ) (fu:Nat) (s_p139b:(Int→Int→EL→ρ)→Int→Int→EL→EL→ρ) (s_p118:(Int→Int→EL→ρ)→Int→Int→EL→ρ) (K0:Int→Int→EL→ρ) (rec1:EL→Int→ρ) (x0 x1:Int) (x2 x3 z8:EL) (z9:Int):ρ :=
 bif (B0 .lss z9 ((x2.length:Nat):Int)) then (gd (0≤z9) fail (gd (z9 < x2.length) fail (G4 fail (List.getD x2 (z9.toNat) []) (fun e0 f0 g0=>s_p139b (fun a0 c0 d0=>gd (1≤[[(CV.v (.int .i64 a0)),(CV.v (.int .i64 c0)),(CV.sl 3 d0 none)]].length) fail (gd ((z8.length + (List.take 1 [[(CV.v (.int .i64 a0)),(CV.v (.int .i64 c0)),(CV.sl 3 d0 none)]]).length) * 40≤35184372088832) fail (rec1 (z8++(List.take 1 [[(CV.v (.int .i64 a0)),(CV.v (.int .i64 c0)),(CV.sl 3 d0 none)]])) (B8 .add .i64 z9 1)))) e0 f0 g0 x3)))) else (K0 x0 x1 z8)
def p139b_1L {ρ:Type} (fail:ρ) (fu:Nat) (s_p139b:(Int→Int→EL→ρ)→Int→Int→EL→EL→ρ) (s_p118:(Int→Int→EL→ρ)→Int→Int→EL→ρ) (K0:Int→Int→EL→ρ) (x0 x1:Int) (x2 x3:EL):Nat→EL→Int→ρ
 | 0,_,_=>fail
 | n + 1,z8,z9=>p139b_1 fail fu s_p139b s_p118 K0 (p139b_1L fail fu s_p139b s_p118 K0 x0 x1 x2 x3 n) x0 x1 x2 x3 z8 z9
def p139b_2 {ρ:Type} (fail:ρ) (fu:Nat) (s_p139b:(Int→Int→EL→ρ)→Int→Int→EL→EL→ρ) (s_p118:(Int→Int→EL→ρ)→Int→Int→EL→ρ) (K0:Int→Int→EL→ρ) (x0 x1:Int) (x2 x3:EL) (j1:Bool):ρ :=
 bif j1 then (gd (0≤x1) fail (gd (x1 < x3.length) fail (G4 fail (List.getD x3 (x1.toNat) []) (fun c2 c3 c4=>s_p118 (fun y5 y6 y7=>K0 y5 y6 y7) c2 c3 c4)))) else (p139b_1L fail fu s_p139b s_p118 K0 x0 x1 x2 x3 fu nilE 0)
def p139b_b {ρ:Type} (fail:ρ) (fu:Nat) (s_p139b:(Int→Int→EL→ρ)→Int→Int→EL→EL→ρ) (s_p118:(Int→Int→EL→ρ)→Int→Int→EL→ρ) (K0:Int→Int→EL→ρ) (x0 x1:Int) (x2 x3:EL):ρ :=
 bif (B0 .eql x0 4) then (bif (B0 .geq x1 0) then (p139b_2 fail fu s_p139b s_p118 K0 x0 x1 x2 x3 (B0 .lss x1 ((x3.length:Nat):Int))) else (p139b_2 fail fu s_p139b s_p118 K0 x0 x1 x2 x3 false)) else (p139b_2 fail fu s_p139b s_p118 K0 x0 x1 x2 x3 false)
def p118_b {ρ:Type} (fail:ρ) (fu:Nat) (s_p139b:(Int→Int→EL→ρ)→Int→Int→EL→EL→ρ) (s_p118:(Int→Int→EL→ρ)→Int→Int→EL→ρ) (K0:Int→Int→EL→ρ) (x0 x1:Int) (x2:EL):ρ :=
 s_p139b (fun y1 y2 y3=>K0 y1 y2 y3) x0 x1 x2 nilE
mutual
def p139b {ρ:Type} (fail:ρ):Nat→(Int→Int→EL→ρ)→Int→Int→EL→EL→ρ
 | 0,_,_,_,_,_=>fail
 | n + 1,K0,x0,x1,x2,x3=>p139b_b fail n (p139b fail n) (p118 fail n) K0 x0 x1 x2 x3
def p118 {ρ:Type} (fail:ρ):Nat→(Int→Int→EL→ρ)→Int→Int→EL→ρ
 | 0,_,_,_,_=>fail
 | n + 1,K0,x0,x1,x2=>p118_b fail n (p139b fail n) (p118 fail n) K0 x0 x1 x2
end
def p124_1 {ρ:Type} (fail:ρ) (fu:Nat) (K0:KT5 ρ) (rec1:EL→Int→ρ) (x0 x1:Int) (x2:ByteArray) (x3 z1:EL) (z2:Int):ρ :=
 bif (B0 .lss z2 ((x3.length:Nat):Int)) then (gd (0≤z2) fail (gd (z2 < x3.length) fail (G4 fail (List.getD x3 (z2.toNat) []) (fun c3 c4 c5=>p118 fail fu (fun y6 y7 y8=>gd (1≤[[(CV.v (.int .i64 y6)),(CV.v (.int .i64 y7)),(CV.sl 3 y8 none)]].length) fail (gd ((z1.length + (List.take 1 [[(CV.v (.int .i64 y6)),(CV.v (.int .i64 y7)),(CV.sl 3 y8 none)]]).length) * 40≤35184372088832) fail (rec1 (z1++(List.take 1 [[(CV.v (.int .i64 y6)),(CV.v (.int .i64 y7)),(CV.sl 3 y8 none)]])) (B8 .add .i64 z2 1)))) c3 c4 c5)))) else (K0 x0 x1 x2 z1 nilE)
def p124_1L {ρ:Type} (fail:ρ) (fu:Nat) (K0:KT5 ρ) (x0 x1:Int) (x2:ByteArray) (x3:EL):Nat→EL→Int→ρ
 | 0,_,_=>fail
 | n + 1,z1,z2=>p124_1 fail fu K0 (p124_1L fail fu K0 x0 x1 x2 x3 n) x0 x1 x2 x3 z1 z2
def p124 {ρ:Type} (fail:ρ) (fu:Nat) (K0:KT5 ρ) (x0 x1:Int) (x2:ByteArray) (x3 x4:EL):ρ :=
 p124_1L fail fu K0 x0 x1 x2 x3 fu nilE 0
def p125_1 {ρ:Type} (fail:ρ) (fu:Nat) (K0:Int→ρ) (j1:Bool):ρ :=
 bif j1 then (K0 1) else (K0 0)
def p125 {ρ:Type} (fail:ρ) (fu:Nat) (K0:Int→ρ) (x0 x1:Int):ρ :=
 bif (B0 .eql x0 4) then (bif (B0 .eql x1 1) then (p125_1 fail fu K0 true) else (bif (B0 .eql x0 6) then (p125_1 fail fu K0 (B0 .eql x1 2)) else (p125_1 fail fu K0 false))) else (bif (B0 .eql x0 5) then (bif (B0 .eql x1 1) then (p125_1 fail fu K0 true) else (bif (B0 .eql x0 6) then (p125_1 fail fu K0 (B0 .eql x1 2)) else (p125_1 fail fu K0 false))) else (bif (B0 .eql x0 6) then (p125_1 fail fu K0 (B0 .eql x1 2)) else (p125_1 fail fu K0 false)))
def p94_1 {ρ:Type} (fail:ρ) (fu:Nat) (s_p94:(Int→Int→ByteArray→EL→EL→ρ)→Int→Int→ByteArray→EL→EL→Int→Int→ρ) (K0:KT5 ρ) (rec1:EL→Int→ρ) (x0:Int) (x4:EL) (x5 x6 y1:Int) (y3:ByteArray) (y4:EL) (j7:Int) (z8:EL) (z9:Int):ρ :=
 bif (B0 .lss z9 ((x4.length:Nat):Int)) then (gd (0≤z9) fail (gd (z9 < x4.length) fail (E0 fail (List.getD x4 (z9.toNat) []) (fun g0 i0 j0 l0 m0=>p125 fail fu (fun n0=>s_p94 (fun a0 c0 d0 e0 f0=>gd (1≤[[(CV.v (.int .i64 a0)),(CV.v (.int .i64 c0)),(CV.v (.string d0)),(CV.sl 3 e0 none),(CV.sl 5 f0 none)]].length) fail (gd ((z8.length + (List.take 1 [[(CV.v (.int .i64 a0)),(CV.v (.int .i64 c0)),(CV.v (.string d0)),(CV.sl 3 e0 none),(CV.sl 5 f0 none)]]).length) * 80≤35184372088832) fail (rec1 (z8++(List.take 1 [[(CV.v (.int .i64 a0)),(CV.v (.int .i64 c0)),(CV.v (.string d0)),(CV.sl 3 e0 none),(CV.sl 5 f0 none)]])) (B8 .add .i64 z9 1)))) g0 i0 j0 l0 m0 x5 (B8 .add .i64 x6 n0)) x0 z9)))) else (K0 y1 j7 y3 y4 z8)
def p94_1L {ρ:Type} (fail:ρ) (fu:Nat) (s_p94:(Int→Int→ByteArray→EL→EL→ρ)→Int→Int→ByteArray→EL→EL→Int→Int→ρ) (K0:KT5 ρ) (x0:Int) (x4:EL) (x5 x6 y1:Int) (y3:ByteArray) (y4:EL) (j7:Int):Nat→EL→Int→ρ
 | 0,_,_=>fail
 | n + 1,z8,z9=>p94_1 fail fu s_p94 K0 (p94_1L fail fu s_p94 K0 x0 x4 x5 x6 y1 y3 y4 j7 n) x0 x4 x5 x6 y1 y3 y4 j7 z8 z9
def p94_2 {ρ:Type} (fail:ρ) (fu:Nat) (s_p94:(Int→Int→ByteArray→EL→EL→ρ)→Int→Int→ByteArray→EL→EL→Int→Int→ρ) (K0:KT5 ρ) (x0:Int) (x4:EL) (x5 x6 y1:Int) (y3:ByteArray) (y4 y5:EL) (j7:Int):ρ :=
 p94_1L fail fu s_p94 K0 x0 x4 x5 x6 y1 y3 y4 j7 fu y5 0
def p94_3 {ρ:Type} (fail:ρ) (fu:Nat) (s_p94:(Int→Int→ByteArray→EL→EL→ρ)→Int→Int→ByteArray→EL→EL→Int→Int→ρ) (K0:KT5 ρ) (x0 x1:Int) (x4:EL) (x5 x6 y1 y2:Int) (y3:ByteArray) (y4 y5:EL) (j6:Bool):ρ :=
 bif j6 then (p94_2 fail fu s_p94 K0 x0 x4 x5 x6 y1 y3 y4 y5 (B8 .add .i64 x1 x5)) else (p94_2 fail fu s_p94 K0 x0 x4 x5 x6 y1 y3 y4 y5 y2)
def p94_b {ρ:Type} (fail:ρ) (fu:Nat) (s_p94:(Int→Int→ByteArray→EL→EL→ρ)→Int→Int→ByteArray→EL→EL→Int→Int→ρ) (K0:KT5 ρ) (x0 x1:Int) (x2:ByteArray) (x3 x4:EL) (x5 x6:Int):ρ :=
 p124 fail fu (fun y1 y2 y3 y4 y5=>bif (B0 .eql x0 0) then (p94_3 fail fu s_p94 K0 x0 x1 x4 x5 x6 y1 y2 y3 y4 y5 (B0 .geq x1 x6)) else (p94_3 fail fu s_p94 K0 x0 x1 x4 x5 x6 y1 y2 y3 y4 y5 false)) x0 x1 x2 x3 x4
def p94 {ρ:Type} (fail:ρ):Nat→(Int→Int→ByteArray→EL→EL→ρ)→Int→Int→ByteArray→EL→EL→Int→Int→ρ
 | 0,_,_,_,_,_,_,_,_=>fail
 | n + 1,K0,x0,x1,x2,x3,x4,x5,x6=>p94_b fail n (p94 fail n) K0 x0 x1 x2 x3 x4 x5 x6
def p89 {ρ:Type} (fail:ρ) (fu:Nat) (K0:KT5 ρ) (x0 x1:Int) (x2:ByteArray) (x3 x4:EL):ρ :=
 p94 fail fu (fun y1 y2 y3 y4 y5=>K0 y1 y2 y3 y4 y5) x0 x1 x2 x3 x4 0 0
def p70 {ρ:Type} (fail:ρ) (fu:Nat) (K0:KT5 ρ) (x0 x1:Int) (x2:ByteArray) (x3 x4:EL) (x5 x6:Int) (x7:ByteArray) (x8 x9:EL):ρ :=
 p89 fail fu (fun y1 y2 y3 y4 y5=>gd (2≤[[(CV.v (.int .i64 x0)),(CV.v (.int .i64 x1)),(CV.v (.string x2)),(CV.sl 3 x3 none),(CV.sl 5 x4 none)],[(CV.v (.int .i64 y1)),(CV.v (.int .i64 y2)),(CV.v (.string y3)),(CV.sl 3 y4 none),(CV.sl 5 y5 none)]].length) fail (K0 3 0 ⟨#[]⟩ nilE (List.take 2 [[(CV.v (.int .i64 x0)),(CV.v (.int .i64 x1)),(CV.v (.string x2)),(CV.sl 3 x3 none),(CV.sl 5 x4 none)],[(CV.v (.int .i64 y1)),(CV.v (.int .i64 y2)),(CV.v (.string y3)),(CV.sl 3 y4 none),(CV.sl 5 y5 none)]]))) x5 x6 x7 x8 x9
def p93_1 {ρ:Type} (fail:ρ) (fu:Nat) (K0:KT5 ρ) (rec1:Int→Int→ByteArray→EL→EL→Int→ρ) (x5:EL) (z6 z7:Int) (z8:ByteArray) (z9 c0:EL) (a0:Int):ρ :=
 bif (B0 .lss a0 ((x5.length:Nat):Int)) then (gd (0≤a0) fail (gd (a0 < x5.length) fail (E0 fail (List.getD x5 (a0.toNat) []) (fun d0 e0 f0 g0 i0=>p70 fail fu (fun j0 l0 m0 n0 o0=>rec1 j0 l0 m0 n0 o0 (B8 .add .i64 a0 1)) z6 z7 z8 z9 c0 d0 e0 f0 g0 i0)))) else (K0 z6 z7 z8 z9 c0)
def p93_1L {ρ:Type} (fail:ρ) (fu:Nat) (K0:KT5 ρ) (x5:EL):Nat→Int→Int→ByteArray→EL→EL→Int→ρ
 | 0,_,_,_,_,_,_=>fail
 | n + 1,z6,z7,z8,z9,a0,c0=>p93_1 fail fu K0 (p93_1L fail fu K0 x5 n) x5 z6 z7 z8 z9 a0 c0
def p93 {ρ:Type} (fail:ρ) (fu:Nat) (K0:KT5 ρ) (x0 x1:Int) (x2:ByteArray) (x3 x4 x5:EL):ρ :=
 p89 fail fu (fun y1 y2 y3 y4 y5=>p93_1L fail fu K0 x5 fu y1 y2 y3 y4 y5 0) x0 x1 x2 x3 x4
def p94b_1 {ρ:Type} (fail:ρ) (fu:Nat) (K0:KT5 ρ) (rec1:EL→Int→ρ) (x0:Int) (x4:EL) (x5 x6 y1:Int) (y3:ByteArray) (y4:EL) (j7:Int) (z8:EL) (z9:Int):ρ :=
 bif (B0 .lss z9 ((x4.length:Nat):Int)) then (gd (0≤z9) fail (gd (z9 < x4.length) fail (E0 fail (List.getD x4 (z9.toNat) []) (fun g0 i0 j0 l0 m0=>p125 fail fu (fun n0=>p94 fail fu (fun a0 c0 d0 e0 f0=>gd (1≤[[(CV.v (.int .i64 a0)),(CV.v (.int .i64 c0)),(CV.v (.string d0)),(CV.sl 3 e0 none),(CV.sl 5 f0 none)]].length) fail (gd ((z8.length + (List.take 1 [[(CV.v (.int .i64 a0)),(CV.v (.int .i64 c0)),(CV.v (.string d0)),(CV.sl 3 e0 none),(CV.sl 5 f0 none)]]).length) * 80≤35184372088832) fail (rec1 (z8++(List.take 1 [[(CV.v (.int .i64 a0)),(CV.v (.int .i64 c0)),(CV.v (.string d0)),(CV.sl 3 e0 none),(CV.sl 5 f0 none)]])) (B8 .add .i64 z9 1)))) g0 i0 j0 l0 m0 x5 (B8 .add .i64 x6 n0)) x0 z9)))) else (K0 y1 j7 y3 y4 z8)
def p94b_1L {ρ:Type} (fail:ρ) (fu:Nat) (K0:KT5 ρ) (x0:Int) (x4:EL) (x5 x6 y1:Int) (y3:ByteArray) (y4:EL) (j7:Int):Nat→EL→Int→ρ
 | 0,_,_=>fail
 | n + 1,z8,z9=>p94b_1 fail fu K0 (p94b_1L fail fu K0 x0 x4 x5 x6 y1 y3 y4 j7 n) x0 x4 x5 x6 y1 y3 y4 j7 z8 z9
def p94b_2 {ρ:Type} (fail:ρ) (fu:Nat) (K0:KT5 ρ) (x0:Int) (x4:EL) (x5 x6 y1:Int) (y3:ByteArray) (y4 y5:EL) (j7:Int):ρ :=
 p94b_1L fail fu K0 x0 x4 x5 x6 y1 y3 y4 j7 fu y5 0
def p94b_3 {ρ:Type} (fail:ρ) (fu:Nat) (K0:KT5 ρ) (x0 x1:Int) (x4:EL) (x5 x6 y1 y2:Int) (y3:ByteArray) (y4 y5:EL) (j6:Bool):ρ :=
 bif j6 then (p94b_2 fail fu K0 x0 x4 x5 x6 y1 y3 y4 y5 (B8 .add .i64 x1 x5)) else (p94b_2 fail fu K0 x0 x4 x5 x6 y1 y3 y4 y5 y2)
def p94b {ρ:Type} (fail:ρ) (fu:Nat) (K0:KT5 ρ) (x0 x1:Int) (x2:ByteArray) (x3 x4:EL) (x5 x6:Int):ρ :=
 p124 fail fu (fun y1 y2 y3 y4 y5=>bif (B0 .eql x0 0) then (p94b_3 fail fu K0 x0 x1 x4 x5 x6 y1 y2 y3 y4 y5 (B0 .geq x1 x6)) else (p94b_3 fail fu K0 x0 x1 x4 x5 x6 y1 y2 y3 y4 y5 false)) x0 x1 x2 x3 x4
def p89b {ρ:Type} (fail:ρ) (fu:Nat) (K0:KT5 ρ) (x0 x1:Int) (x2:ByteArray) (x3 x4:EL):ρ :=
 p94b fail fu (fun y1 y2 y3 y4 y5=>K0 y1 y2 y3 y4 y5) x0 x1 x2 x3 x4 0 0
def p66 {ρ:Type} (fail:ρ) (fu:Nat) (K0:KT5 ρ) (x0 x1:Int) (x2:ByteArray) (x3 x4:EL) (x5 x6:Int):ρ :=
 p94 fail fu (fun y1 y2 y3 y4 y5=>K0 y1 y2 y3 y4 y5) x0 x1 x2 x3 x4 (if 1073741824 < (if 0 > x5 then 0 else x5) then 1073741824 else (if 0 > x5 then 0 else x5)) (if 1073741824 < (if 0 > x6 then 0 else x6) then 1073741824 else (if 0 > x6 then 0 else x6))
def p64 {ρ:Type} (fail:ρ) (fu:Nat) (K0:KT5 ρ) (x0 x1:Int) (x2:ByteArray) (x3 x4:EL) (x5 x6:Int) (x7:ByteArray) (x8 x9:EL):ρ :=
 p89 fail fu (fun y1 y2 y3 y4 y5=>gd (2≤[[(CV.v (.int .i64 y1)),(CV.v (.int .i64 y2)),(CV.v (.string y3)),(CV.sl 3 y4 none),(CV.sl 5 y5 none)],[(CV.v (.int .i64 x5)),(CV.v (.int .i64 x6)),(CV.v (.string x7)),(CV.sl 3 x8 none),(CV.sl 5 x9 none)]].length) fail (K0 4 0 ⟨#[]⟩ nilE (List.take 2 [[(CV.v (.int .i64 y1)),(CV.v (.int .i64 y2)),(CV.v (.string y3)),(CV.sl 3 y4 none),(CV.sl 5 y5 none)],[(CV.v (.int .i64 x5)),(CV.v (.int .i64 x6)),(CV.v (.string x7)),(CV.sl 3 x8 none),(CV.sl 5 x9 none)]]))) x0 x1 x2 x3 x4
def p62 {ρ:Type} (fail:ρ) (fu:Nat) (K0:KT5 ρ) (x0 x1:Int) (x2:ByteArray) (x3 x4:EL) (x5 x6:Int) (x7:ByteArray) (x8 x9:EL):ρ :=
 p89 fail fu (fun y1 y2 y3 y4 y5=>gd (2≤[[(CV.v (.int .i64 y1)),(CV.v (.int .i64 y2)),(CV.v (.string y3)),(CV.sl 3 y4 none),(CV.sl 5 y5 none)],[(CV.v (.int .i64 x5)),(CV.v (.int .i64 x6)),(CV.v (.string x7)),(CV.sl 3 x8 none),(CV.sl 5 x9 none)]].length) fail (K0 5 0 ⟨#[]⟩ nilE (List.take 2 [[(CV.v (.int .i64 y1)),(CV.v (.int .i64 y2)),(CV.v (.string y3)),(CV.sl 3 y4 none),(CV.sl 5 y5 none)],[(CV.v (.int .i64 x5)),(CV.v (.int .i64 x6)),(CV.v (.string x7)),(CV.sl 3 x8 none),(CV.sl 5 x9 none)]]))) x0 x1 x2 x3 x4
def p92 {ρ:Type} (fail:ρ) (fu:Nat) (K0:KT5 ρ) (x0:ByteArray) (x1:EL):ρ :=
 p124 fail fu (fun y1 y2 y3 y4 y5=>K0 y1 y2 y3 y4 y5) 2 0 x0 x1 nilE
def p90 {ρ:Type} (fail:ρ) (fu:Nat) (K0:KT5 ρ) (x0 x1:Int) (x2:EL):ρ :=
 p118 fail fu (fun y1 y2 y3=>gd (1≤[[(CV.v (.int .i64 y1)),(CV.v (.int .i64 y2)),(CV.sl 3 y3 none)]].length) fail (K0 1 0 ⟨#[]⟩ (List.take 1 [[(CV.v (.int .i64 y1)),(CV.v (.int .i64 y2)),(CV.sl 3 y3 none)]]) nilE)) x0 x1 x2
mutual
def Lv.thin:Lv→Prop
 | .mk _ _ l=>l.length≤1000∧Lv.thins l
def Lv.thins:List Lv→Prop
 | []=>True
 | a :: l=>a.thin∧Lv.thins l
end
mutual
def Tm.thin:Tm→Prop
 | .mk _ _ _ ls l=>(ls.length≤1000∧Lv.thins ls)∧l.length≤1000∧Tm.thins l
def Tm.thins:List Tm→Prop
 | []=>True
 | a :: l=>a.thin∧Tm.thins l
end
theorem Lv.thins_iff:∀ {l:List Lv},Lv.thins l ↔ ∀ a ∈ l,a.thin
 | []=>by simp [Lv.thins]
 | b :: l=>by rw [Lv.thins,Lv.thins_iff];simp
theorem Tm.thins_iff:∀ {l:List Tm},Tm.thins l ↔ ∀ a ∈ l,a.thin
 | []=>by simp [Tm.thins]
 | b :: l=>by rw [Tm.thins,Tm.thins_iff];simp
theorem V3 (l:Lv):List.take 1 [[CV.v (.int .i64 l.k),CV.v (.int .i64 l.n),CV.sl 3 (Lv.rows l.args) none]]=Lv.rows [l]:=by rw [Lv.rows,Lv.rows,Lv.row_eq];rfl
theorem z6c (l m:Lv):List.take 2 [[CV.v (.int .i64 l.k),CV.v (.int .i64 l.n),CV.sl 3 (Lv.rows l.args) none],[CV.v (.int .i64 m.k),CV.v (.int .i64 m.n),CV.sl 3 (Lv.rows m.args) none]]=Lv.rows [l,m]:=by rw [Lv.rows,Lv.rows,Lv.rows,Lv.row_eq,Lv.row_eq];rfl
theorem Q8 (t:Tm):List.take 1 [[CV.v (.int .i64 t.k),CV.v (.int .i64 t.n),CV.v (.string t.nm),CV.sl 3 (Lv.rows t.ls) none,CV.sl 5 (Tm.rows t.args) none]]=Tm.rows [t]:=by rw [Tm.rows,Tm.rows,Tm.row_eq];rfl
theorem L3 (t u:Tm):List.take 2 [[CV.v (.int .i64 t.k),CV.v (.int .i64 t.n),CV.v (.string t.nm),CV.sl 3 (Lv.rows t.ls) none,CV.sl 5 (Tm.rows t.args) none],[CV.v (.int .i64 u.k),CV.v (.int .i64 u.n),CV.v (.string u.nm),CV.sl 3 (Lv.rows u.ls) none,CV.sl 5 (Tm.rows u.args) none]]=Tm.rows [t,u]:=by rw [Tm.rows,Tm.rows,Tm.rows,Tm.row_eq,Tm.row_eq];rfl
theorem z2m (t u v:Tm):List.take 3 [[CV.v (.int .i64 t.k),CV.v (.int .i64 t.n),CV.v (.string t.nm),CV.sl 3 (Lv.rows t.ls) none,CV.sl 5 (Tm.rows t.args) none],[CV.v (.int .i64 u.k),CV.v (.int .i64 u.n),CV.v (.string u.nm),CV.sl 3 (Lv.rows u.ls) none,CV.sl 5 (Tm.rows u.args) none],[CV.v (.int .i64 v.k),CV.v (.int .i64 v.n),CV.v (.string v.nm),CV.sl 3 (Lv.rows v.ls) none,CV.sl 5 (Tm.rows v.args) none]]=Tm.rows [t,u,v]:=by rw [Tm.rows,Tm.rows,Tm.rows,Tm.rows,Tm.row_eq,Tm.row_eq,Tm.row_eq];rfl
theorem w0t (t u v w:Tm):List.take 4 [[CV.v (.int .i64 t.k),CV.v (.int .i64 t.n),CV.v (.string t.nm),CV.sl 3 (Lv.rows t.ls) none,CV.sl 5 (Tm.rows t.args) none],[CV.v (.int .i64 u.k),CV.v (.int .i64 u.n),CV.v (.string u.nm),CV.sl 3 (Lv.rows u.ls) none,CV.sl 5 (Tm.rows u.args) none],[CV.v (.int .i64 v.k),CV.v (.int .i64 v.n),CV.v (.string v.nm),CV.sl 3 (Lv.rows v.ls) none,CV.sl 5 (Tm.rows v.args) none],[CV.v (.int .i64 w.k),CV.v (.int .i64 w.n),CV.v (.string w.nm),CV.sl 3 (Lv.rows w.ls) none,CV.sl 5 (Tm.rows w.args) none]]=Tm.rows [t,u,v,w]:=by rw [Tm.rows,Tm.rows,Tm.rows,Tm.rows,Tm.rows,Tm.row_eq,Tm.row_eq,Tm.row_eq,Tm.row_eq];rfl
section
variable {ρ:Type} (fail:ρ)
theorem w5v:∀ (N:Nat) (l:Lv),l.sz≤N→l.thin→∀ (fu:Nat) (K:Int→Int→EL→ρ),l.sz + 10≤fu→p139b fail fu K l.k l.n (Lv.rows l.args) nilE=K l.k l.n (Lv.rows l.args):=by
 intro N
 induction N with
 | zero=>intro l h;cases l;simp [Lv.sz] at h
 | succ N ih =>
  intro l hN ht fu K hf
  obtain⟨k,n,l⟩:=l
  obtain⟨m,rfl⟩:∃ m,fu=m + 1:=⟨fu - 1,by omega⟩
  simp only [Lv.sz] at hN hf
  simp only [Lv.thin] at ht
  obtain⟨hl,ht⟩:=ht
  have hlz:=Lv.szs_len l
  have loop:∀ (r q i:Nat),i + r=l.length→r < q→p139b_1L fail m (p139b fail m) (p118 fail m) K k n (Lv.rows l) nilE q (Lv.rows (l.take i)) ((i:Nat):Int)=K k n (Lv.rows l):=by
   intro r
   induction r with
   | zero =>
    intro q i hi hq
    obtain⟨q,rfl⟩:∃ z,q=z + 1:=⟨q - 1,by omega⟩
    rw [p139b_1L,p139b_1,Lv.rows_len,w5u (by omega),cond_false,List.take_of_length_le (by omega)]
   | succ r ihr =>
    intro q i hi hq
    obtain⟨q,rfl⟩:∃ z,q=z + 1:=⟨q - 1,by omega⟩
    have hlt:i < l.length:=by omega
    have hm:=Lv.szs_mem (List.getElem_mem hlt)
    rw [p139b_1L,p139b_1,Lv.rows_len,w9k (by omega),cond_true,E4 (by omega),E4 (by omega),w7u fail l i hlt,ih l[i] (by omega) (Lv.thins_iff.1 ht _ (List.getElem_mem hlt)) m _ (by omega),E4 (by simp),V3,Lv.rows_len,Lv.rows_len,List.length_take,E4 (by simp;omega),← Lv.rows_append,z7e (by omega) (by omega),show ((i:Nat):Int) + 1=((i + 1:Nat):Int) by omega,
     show l.take i++[l[i]]=l.take (i + 1) from by rw [List.take_succ_eq_append_getElem hlt]]
    exact ihr q (i + 1) (by omega) (by omega)
  have h0:=loop l.length m 0 (by omega) (by omega)
  have hj:∀ j:Bool,j=false→p139b_2 fail m (p139b fail m) (p118 fail m) K k n (Lv.rows l) nilE j=K k n (Lv.rows l):=fun j hj=>by
   subst hj;rw [p139b_2,cond_false];exact h0
  have hb:p139b_b fail m (p139b fail m) (p118 fail m) K k n (Lv.rows l) nilE=K k n (Lv.rows l):=by
   rw [p139b_b]
   cases B0 .eql k 4 with
   | false=>rw [cond_false,hj _ rfl]
   | true =>
    rw [cond_true]
    cases hg:B0 .geq n 0 with
    | false=>rw [cond_false,hj _ rfl]
    | true =>
     have hn:0≤n:=of_decide_eq_true hg
     rw [cond_true,hj _ (w5u (by show ((0:Nat):Int)≤n;omega))]
  rw [p139b];exact hb
theorem P6 (l:Lv) (ht:l.thin) (fu:Nat) (K:Int→Int→EL→ρ) (hf:l.sz + 20≤fu):p118 fail fu K l.k l.n (Lv.rows l.args)=K l.k l.n (Lv.rows l.args):=by
 obtain⟨m,rfl⟩:∃ m,fu=m + 1:=⟨fu - 1,by omega⟩
 rw [p118,p118_b,w5v fail _ l (Nat.le_refl _) ht m _ (by omega)]
theorem z3w (t:Tm) (ht:t.thin) (fu:Nat) (K:Int→Int→ByteArray→EL→EL→ρ) (hf:t.sz + 30≤fu) (A:EL):p124 fail fu K t.k t.n t.nm (Lv.rows t.ls) A=K t.k t.n t.nm (Lv.rows t.ls) nilE:=by
 obtain⟨k,n,s,l,a⟩:=t
 simp only [Tm.thin] at ht
 simp only [Tm.sz] at hf
 obtain⟨⟨hl,ht⟩,_⟩:=ht
 have hlz:=Lv.szs_len l
 have loop:∀ (r q i:Nat),i + r=l.length→r < q→p124_1L fail fu K k n s (Lv.rows l) q (Lv.rows (l.take i)) ((i:Nat):Int)=K k n s (Lv.rows l) nilE:=by
  intro r
  induction r with
  | zero =>
   intro q i hi hq
   obtain⟨q,rfl⟩:∃ z,q=z + 1:=⟨q - 1,by omega⟩
   rw [p124_1L,p124_1,Lv.rows_len,w5u (by omega),cond_false,List.take_of_length_le (by omega)]
  | succ r ihr =>
   intro q i hi hq
   obtain⟨q,rfl⟩:∃ z,q=z + 1:=⟨q - 1,by omega⟩
   have hlt:i < l.length:=by omega
   have hm:=Lv.szs_mem (List.getElem_mem hlt)
   rw [p124_1L,p124_1,Lv.rows_len,w9k (by omega),cond_true,E4 (by omega),E4 (by omega),w7u fail l i hlt,P6 fail l[i] (Lv.thins_iff.1 ht _ (List.getElem_mem hlt)) fu _ (by omega),E4 (by simp),V3,Lv.rows_len,Lv.rows_len,List.length_take,E4 (by simp;omega),← Lv.rows_append,z7e (by omega) (by omega),show ((i:Nat):Int) + 1=((i + 1:Nat):Int) by omega,
    show l.take i++[l[i]]=l.take (i + 1) from by rw [List.take_succ_eq_append_getElem hlt]]
   exact ihr q (i + 1) (by omega) (by omega)
 have h0:=loop l.length fu 0 (by omega) (by omega)
 rw [p124];exact h0
theorem w6n (fu:Nat) (a b:Int):∃ c:Int,∀ K:Int→ρ,p125 fail fu K a b=K c :=
 ⟨p125 (ρ:=Int) 0 0 (fun c=>c) a b,fun K=>by
  cases h1:B0 .eql a 4<;>cases h2:B0 .eql b 1<;>cases h3:B0 .eql a 6<;>cases h4:B0 .eql b 2<;>cases h5:B0 .eql a 5 <;>
   simp [p125,p125_1,h1,h2,h3,h4,h5]⟩
theorem z6f:∀ (N:Nat) (t:Tm),t.sz≤N→t.thin→∀ (by_ from_:Int),∃ t':Tm,(t'.thin∧t'.args.length=t.args.length)∧t'.sz=t.sz∧∀ (fu:Nat) (K:Int→Int→ByteArray→EL→EL→ρ),t.sz + 60≤fu →
  p94 fail fu K t.k t.n t.nm (Lv.rows t.ls) (Tm.rows t.args) by_ from_=K t'.k t'.n t'.nm (Lv.rows t'.ls) (Tm.rows t'.args):=by
 intro N
 induction N with
 | zero=>intro t h;cases t;simp [Tm.sz] at h
 | succ N ih =>
  intro t hN ht by_ from_
  have hth:=ht
  obtain⟨k,n,s,ls,l⟩:=t
  simp only [Tm.sz] at hN
  simp only [Tm.thin] at ht
  obtain⟨hls,hl,ht⟩:=ht
  have hlz:=Tm.szs_len l
  have step:∀ a ∈ l,∃ f:Int→Tm,∀ fr,((f fr).thin∧(f fr).args.length=a.args.length)∧(f fr).sz=a.sz∧∀ (fu:Nat) (K:Int→Int→ByteArray→EL→EL→ρ),a.sz + 60≤fu →
    p94 fail fu K a.k a.n a.nm (Lv.rows a.ls) (Tm.rows a.args) by_ fr=K (f fr).k (f fr).n (f fr).nm (Lv.rows (f fr).ls) (Tm.rows (f fr).args):=fun a ha=>by
   have hm:=Tm.szs_mem ha
   exact⟨fun fr=>(ih a (by omega) (Tm.thins_iff.1 ht a ha) by_ fr).choose,fun fr=>(ih a (by omega) (Tm.thins_iff.1 ht a ha) by_ fr).choose_spec⟩
  have parts:∀ r i:Nat,i + r=l.length→∃ l':List Tm,l'.length=r∧Tm.thins l'∧Tm.szs l'=Tm.szs (l.drop i)∧∀ (m q:Nat) (z:List Tm) (K:Int→Int→ByteArray→EL→EL→ρ) (j:Int),z.length=i→r < q→Tm.szs l + 60≤m →
    p94_1L fail m (p94 fail m) K k (Tm.rows l) by_ from_ k s (Lv.rows ls) j q (Tm.rows z) ((i:Nat):Int)=K k j s (Lv.rows ls) (Tm.rows (z++l')):=by
   intro r
   induction r with
   | zero =>
    intro i hi
    refine⟨[],rfl,trivial,by rw [List.drop_of_length_le (by omega)],fun m q z K j hz hq hm=>?_⟩
    obtain⟨q,rfl⟩:∃ z,q=z + 1:=⟨q - 1,by omega⟩
    rw [p94_1L,p94_1,Tm.rows_len,w5u (by omega),cond_false,List.append_nil]
   | succ r ihr =>
    intro i hi
    have hlt:i < l.length:=by omega
    have hmem:=List.getElem_mem hlt
    have hsz:=Tm.szs_mem hmem
    obtain⟨f,hf⟩:=step l[i] hmem
    obtain⟨l',h1,h2,h3,h4⟩:=ihr (i + 1) (by omega)
    obtain⟨c,hc⟩:=w6n fail 0 k ((i:Nat):Int)
    have hc':∀ (fu:Nat) (K:Int→ρ),p125 fail fu K k ((i:Nat):Int)=K c:=fun fu K=>hc K
    obtain⟨g1,g2,g3⟩:=hf (B8 .add .i64 from_ c)
    refine⟨f (B8 .add .i64 from_ c) :: l',by simp [h1],⟨g1.1,h2⟩,?_,fun m q z K j hz hq hm=>?_⟩
    ·rw [List.drop_eq_getElem_cons hlt,Tm.szs,Tm.szs,h3,g2]
    ·obtain⟨q,rfl⟩:∃ z,q=z + 1:=⟨q - 1,by omega⟩
     rw [p94_1L,p94_1,Tm.rows_len,w9k (by omega),cond_true,E4 (by omega),E4 (by omega),w2r fail l i hlt,hc',g3 m _ (by omega),E4 (by simp),Q8,Tm.rows_len,Tm.rows_len,E4 (by simp;omega),← Tm.rows_append,show B8 .add .i64 ((i:Nat):Int) 1=((i + 1:Nat):Int) from by rw [z7e (by omega) (by omega)];omega,
      h4 m q (z++[f (B8 .add .i64 from_ c)]) K j (by simp;omega) (by omega) hm,List.append_assoc]
     rfl
  obtain⟨l',h1,h2,h3,h4⟩:=parts l.length 0 (by omega)
  rw [List.drop_zero] at h3
  have fin:∀ (m:Nat) (K:Int→Int→ByteArray→EL→EL→ρ) (j:Int),Tm.szs l + 60≤m→p94_2 fail m (p94 fail m) K k (Tm.rows l) by_ from_ k s (Lv.rows ls) nilE j=K k j s (Lv.rows ls) (Tm.rows l'):=fun m K j hm=>by
   have:=h4 m m [] K j rfl (by omega) hm
   rw [p94_2];exact this
  by_cases hc:k=0∧from_≤n
  ·refine⟨.mk k (B8 .add .i64 n by_) s ls l',⟨⟨hls,by rw [h1];exact hl,h2⟩,h1⟩,by simp only [Tm.sz,h3],fun fu K hf=>?_⟩
   obtain⟨m,rfl⟩:∃ m,fu=m + 1:=⟨fu - 1,by omega⟩
   simp only [Tm.sz] at hf
   have hlf:=z3w fail (.mk k n s ls l) hth m (fun y1 y2 y3 y4 y5=>bif (B0 .eql k 0) then (p94_3 fail m (p94 fail m) K k n (Tm.rows l) by_ from_ y1 y2 y3 y4 y5 (B0 .geq n from_)) else (p94_3 fail m (p94 fail m) K k n (Tm.rows l) by_ from_ y1 y2 y3 y4 y5 false)) (by simp only [Tm.sz];omega) (Tm.rows l)
   have hb:p94_b fail m (p94 fail m) K k n s (Lv.rows ls) (Tm.rows l) by_ from_=K k (B8 .add .i64 n by_) s (Lv.rows ls) (Tm.rows l'):=by
    rw [p94_b]
    refine hlf.trans ?_
    simp only [Tm.k,Tm.n,Tm.nm,Tm.ls]
    rw [J1 hc.1,cond_true,w9u hc.2,p94_3,cond_true,fin m K _ (by omega)]
   rw [p94];exact hb
  ·refine⟨.mk k n s ls l',⟨⟨hls,by rw [h1];exact hl,h2⟩,h1⟩,by simp only [Tm.sz,h3],fun fu K hf=>?_⟩
   obtain⟨m,rfl⟩:∃ m,fu=m + 1:=⟨fu - 1,by omega⟩
   simp only [Tm.sz] at hf
   have hlf:=z3w fail (.mk k n s ls l) hth m (fun y1 y2 y3 y4 y5=>bif (B0 .eql k 0) then (p94_3 fail m (p94 fail m) K k n (Tm.rows l) by_ from_ y1 y2 y3 y4 y5 (B0 .geq n from_)) else (p94_3 fail m (p94 fail m) K k n (Tm.rows l) by_ from_ y1 y2 y3 y4 y5 false)) (by simp only [Tm.sz];omega) (Tm.rows l)
   have hb:p94_b fail m (p94 fail m) K k n s (Lv.rows ls) (Tm.rows l) by_ from_=K k n s (Lv.rows ls) (Tm.rows l'):=by
    rw [p94_b]
    refine hlf.trans ?_
    simp only [Tm.k,Tm.n,Tm.nm,Tm.ls]
    by_cases h0:k=0
    ·rw [J1 h0,cond_true,w9v (by omega),p94_3,cond_false,fin m K _ (by omega)]
    ·rw [D0 h0,cond_false,p94_3,cond_false,fin m K _ (by omega)]
   rw [p94];exact hb
theorem w9q (fu:Nat) (K:Int→Int→ByteArray→EL→EL→ρ) (x0:Int) (x4:EL) (x5 x6 y1:Int) (y3:ByteArray) (y4:EL) (j7:Int):∀ n,p94b_1L fail fu K x0 x4 x5 x6 y1 y3 y4 j7 n=p94_1L fail fu (p94 fail fu) K x0 x4 x5 x6 y1 y3 y4 j7 n:=by
 intro n
 induction n with
 | zero=>funext z i;rw [p94b_1L,p94_1L]
 | succ n ih=>funext z i;rw [p94b_1L,p94_1L,ih];rfl
theorem k4r (fu:Nat) (K:Int→Int→ByteArray→EL→EL→ρ) (x0 x1:Int) (x2:ByteArray) (x3 x4:EL) (x5 x6:Int):p94b fail fu K x0 x1 x2 x3 x4 x5 x6=p94_b fail fu (p94 fail fu) K x0 x1 x2 x3 x4 x5 x6:=by
 rw [p94b,p94_b]
 simp only [p94b_3,p94b_2,p94_3,p94_2,w9q]
theorem z3d (t:Tm) (ht:t.thin):∃ t':Tm,(t'.thin∧t'.args.length=t.args.length)∧t'.sz=t.sz∧∀ (fu:Nat) (K:Int→Int→ByteArray→EL→EL→ρ),t.sz + 60≤fu →
  p89 fail fu K t.k t.n t.nm (Lv.rows t.ls) (Tm.rows t.args)=K t'.k t'.n t'.nm (Lv.rows t'.ls) (Tm.rows t'.args):=by
 obtain⟨t',h1,h2,h3⟩:=z6f fail _ t (Nat.le_refl _) ht 0 0
 exact⟨t',h1,h2,fun fu K hf=>by rw [p89,h3 fu _ hf]⟩
theorem z8q (t:Tm) (ht:t.thin):∃ t':Tm,(t'.thin∧t'.args.length=t.args.length)∧t'.sz=t.sz∧∀ (fu:Nat) (K:Int→Int→ByteArray→EL→EL→ρ),t.sz + 60≤fu →
  p89b fail fu K t.k t.n t.nm (Lv.rows t.ls) (Tm.rows t.args)=K t'.k t'.n t'.nm (Lv.rows t'.ls) (Tm.rows t'.args):=by
 obtain⟨t',h1,h2,h3⟩:=z6f fail _ t (Nat.le_refl _) ht 0 0
 exact⟨t',h1,h2,fun fu K hf=>by rw [p89b,k4r];have:=h3 (fu + 1) K (by omega);rw [p94] at this;exact this⟩
theorem w3j (t:Tm) (ht:t.thin) (a b:Int):∃ t':Tm,(t'.thin∧t'.args.length=t.args.length)∧t'.sz=t.sz∧∀ (fu:Nat) (K:Int→Int→ByteArray→EL→EL→ρ),t.sz + 60≤fu →
  p66 fail fu K t.k t.n t.nm (Lv.rows t.ls) (Tm.rows t.args) a b=K t'.k t'.n t'.nm (Lv.rows t'.ls) (Tm.rows t'.args):=by
 obtain⟨t',h1,h2,h3⟩:=z6f fail _ t (Nat.le_refl _) ht (if 1073741824 < (if 0 > a then 0 else a) then 1073741824 else (if 0 > a then 0 else a)) (if 1073741824 < (if 0 > b then 0 else b) then 1073741824 else (if 0 > b then 0 else b))
 exact⟨t',h1,h2,fun fu K hf=>by rw [p66];exact h3 fu _ hf⟩
theorem w4w (t u:Tm) (ht:t.thin) (hu:u.thin):∃ v:Tm,v.thin∧∀ (fu:Nat) (K:Int→Int→ByteArray→EL→EL→ρ),u.sz + 60≤fu →
  p70 fail fu K t.k t.n t.nm (Lv.rows t.ls) (Tm.rows t.args) u.k u.n u.nm (Lv.rows u.ls) (Tm.rows u.args)=K v.k v.n v.nm (Lv.rows v.ls) (Tm.rows v.args):=by
 obtain⟨u',⟨h1,_⟩,h2,h3⟩:=z3d fail u hu
 exact⟨.mk 3 0 ⟨#[]⟩ [] [t,u'],⟨⟨by simp,trivial⟩,by simp,ht,h1,trivial⟩,fun fu K hf=>by rw [p70,h3 fu _ hf,E4 (by simp),L3];rfl⟩
theorem w9p (t u:Tm) (ht:t.thin) (hu:u.thin):∃ v:Tm,v.thin∧∀ (fu:Nat) (K:Int→Int→ByteArray→EL→EL→ρ),t.sz + 60≤fu →
  p64 fail fu K t.k t.n t.nm (Lv.rows t.ls) (Tm.rows t.args) u.k u.n u.nm (Lv.rows u.ls) (Tm.rows u.args)=K v.k v.n v.nm (Lv.rows v.ls) (Tm.rows v.args):=by
 obtain⟨t',⟨h1,_⟩,h2,h3⟩:=z3d fail t ht
 exact⟨.mk 4 0 ⟨#[]⟩ [] [t',u],⟨⟨by simp,trivial⟩,by simp,h1,hu,trivial⟩,fun fu K hf=>by rw [p64,h3 fu _ hf,E4 (by simp),L3];rfl⟩
theorem k2v (t u:Tm) (ht:t.thin) (hu:u.thin):∃ v:Tm,v.thin∧∀ (fu:Nat) (K:Int→Int→ByteArray→EL→EL→ρ),t.sz + 60≤fu →
  p62 fail fu K t.k t.n t.nm (Lv.rows t.ls) (Tm.rows t.args) u.k u.n u.nm (Lv.rows u.ls) (Tm.rows u.args)=K v.k v.n v.nm (Lv.rows v.ls) (Tm.rows v.args):=by
 obtain⟨t',⟨h1,_⟩,h2,h3⟩:=z3d fail t ht
 exact⟨.mk 5 0 ⟨#[]⟩ [] [t',u],⟨⟨by simp,trivial⟩,by simp,h1,hu,trivial⟩,fun fu K hf=>by rw [p62,h3 fu _ hf,E4 (by simp),L3];rfl⟩
theorem w0v (l:Lv) (hl:l.thin):∃ v:Tm,v.thin∧∀ (fu:Nat) (K:Int→Int→ByteArray→EL→EL→ρ),l.sz + 20≤fu →
  p90 fail fu K l.k l.n (Lv.rows l.args)=K v.k v.n v.nm (Lv.rows v.ls) (Tm.rows v.args) :=
 ⟨.mk 1 0 ⟨#[]⟩ [l] [],⟨⟨by simp,hl,trivial⟩,by simp,trivial⟩,fun fu K hf=>by rw [p90,P6 fail l hl fu _ hf,E4 (by simp),V3];rfl⟩
theorem S7 (s:ByteArray):∃ v:Tm,v.thin∧∀ (fu:Nat) (K:Int→Int→ByteArray→EL→EL→ρ),s.size + 40≤fu →
  p92 fail fu K s nilE=K v.k v.n v.nm (Lv.rows v.ls) (Tm.rows v.args):=by
 have ht:(Tm.mk 2 0 s [] []).thin:=⟨⟨by simp,trivial⟩,by simp,trivial⟩
 refine⟨.mk 2 0 s [] [],ht,fun fu K hf=>?_⟩
 have:=z3w fail (.mk 2 0 s [] []) ht fu K (by simp [Tm.sz,Lv.szs,Tm.szs];omega) nilE
 rw [p92];exact this
theorem w3u (l:List Tm) (hl:Tm.thins l) (hlen:l.length≤1000):∀ (r i:Nat),i + r=l.length→∀ t:Tm,t.thin→∃ v:Tm,v.thin∧∀ (fu n:Nat) (K:Int→Int→ByteArray→EL→EL→ρ),Tm.szs l + 60≤fu→r < n →
  p93_1L fail fu K (Tm.rows l) n t.k t.n t.nm (Lv.rows t.ls) (Tm.rows t.args) ((i:Nat):Int)=K v.k v.n v.nm (Lv.rows v.ls) (Tm.rows v.args):=by
 intro r
 induction r with
 | zero =>
  intro i hi t ht
  refine⟨t,ht,fun fu n K hf hn=>?_⟩
  obtain⟨n,rfl⟩:∃ z,n=z + 1:=⟨n - 1,by omega⟩
  rw [p93_1L,p93_1,Tm.rows_len,w5u (by omega),cond_false]
 | succ r ih =>
  intro i hi t ht
  have hlt:i < l.length:=by omega
  have hmem:=List.getElem_mem hlt
  have hsz:=Tm.szs_mem hmem
  obtain⟨w,hw,h1⟩:=w4w fail t l[i] ht (Tm.thins_iff.1 hl _ hmem)
  obtain⟨v,hv,h2⟩:=ih (i + 1) (by omega) w hw
  refine⟨v,hv,fun fu n K hf hn=>?_⟩
  obtain⟨n,rfl⟩:∃ z,n=z + 1:=⟨n - 1,by omega⟩
  rw [p93_1L,p93_1,Tm.rows_len,w9k (by omega),cond_true,E4 (by omega),E4 (by omega),w2r fail l i hlt,h1 fu _ (by omega),z7e (by omega) (by omega),show ((i:Nat):Int) + 1=((i + 1:Nat):Int) by omega]
  exact h2 fu n K hf (by omega)
theorem w6p (t:Tm) (ht:t.thin) (l:List Tm) (hl:Tm.thins l) (hlen:l.length≤1000):∃ v:Tm,v.thin∧∀ (fu:Nat) (K:Int→Int→ByteArray→EL→EL→ρ),t.sz + Tm.szs l + 1100≤fu →
  p93 fail fu K t.k t.n t.nm (Lv.rows t.ls) (Tm.rows t.args) (Tm.rows l)=K v.k v.n v.nm (Lv.rows v.ls) (Tm.rows v.args):=by
 obtain⟨t',⟨h1,_⟩,h2,h3⟩:=z3d fail t ht
 obtain⟨v,hv,h4⟩:=w3u fail l hl hlen l.length 0 (by omega) t' h1
 refine⟨v,hv,fun fu K hf=>?_⟩
 rw [p93,h3 fu _ (by omega)]
 exact h4 fu fu K (by omega) (by omega)
end
def p133_1 {ρ:Type} (fail:ρ) (fu:Nat) (K0:KT6 ρ) (rec1:Int→ρ) (x0:ByteArray) (x2 x3 x4 x5 z1:Int) (j2:Bool):ρ :=
 bif j2 then (rec1 (B8 .add .i64 z1 1)) else (K0 x0 z1 x2 x3 x4 x5)
def p133_2 {ρ:Type} (fail:ρ) (fu:Nat) (K0:KT6 ρ) (rec1:Int→ρ) (x0:ByteArray) (x2 x3 x4 x5 z1:Int):ρ :=
 bif (B0 .lss z1 ((x0.size:Nat):Int)) then (gd (0≤z1) fail (gd (z1 < (x0.size:Nat)) fail (bif (B0 .eql ((List.getD x0.data.toList z1.toNat 0).toNat:Nat) 32) then (p133_1 fail fu K0 rec1 x0 x2 x3 x4 x5 z1 true) else (gd (0≤z1) fail (gd (z1 < (x0.size:Nat)) fail (p133_1 fail fu K0 rec1 x0 x2 x3 x4 x5 z1 (B0 .eql ((List.getD x0.data.toList z1.toNat 0).toNat:Nat) 10))))))) else (p133_1 fail fu K0 rec1 x0 x2 x3 x4 x5 z1 false)
def p133_2L {ρ:Type} (fail:ρ) (fu:Nat) (K0:KT6 ρ) (x0:ByteArray) (x2 x3 x4 x5:Int):Nat→Int→ρ
 | 0,_=>fail
 | n + 1,z1=>p133_2 fail fu K0 (p133_2L fail fu K0 x0 x2 x3 x4 x5 n) x0 x2 x3 x4 x5 z1
def p133 {ρ:Type} (fail:ρ) (fu:Nat) (K0:KT6 ρ) (x0:ByteArray) (x1 x2 x3 x4 x5:Int):ρ :=
 p133_2L fail fu K0 x0 x2 x3 x4 x5 fu x1
def p126_1 {ρ:Type} (fail:ρ) (fu:Nat) (K0:KT7 ρ) (y1:ByteArray) (y2 y3 y4 y5 y6:Int) (j7:Bool):ρ :=
 bif j7 then (K0 0 y1 y2 y3 y4 y5 y6) else (gd (0≤y2) fail (gd (y2 < (y1.size:Nat)) fail (K0 ((List.getD y1.data.toList y2.toNat 0).toNat:Nat) y1 y2 y3 y4 y5 y6)))
def p126 {ρ:Type} (fail:ρ) (fu:Nat) (K0:KT7 ρ) (x0:ByteArray) (x1 x2 x3 x4 x5:Int):ρ :=
 p133 fail fu (fun y1 y2 y3 y4 y5 y6=>bif (B0 .neq y3 0) then (p126_1 fail fu K0 y1 y2 y3 y4 y5 y6 true) else (p126_1 fail fu K0 y1 y2 y3 y4 y5 y6 (B0 .geq y2 ((y1.size:Nat):Int)))) x0 x1 x2 x3 x4 x5
def p127_1 {ρ:Type} (fail:ρ) (fu:Nat) (K0:Bool→ρ) (j1:Bool):ρ :=
 K0 j1
def p127 {ρ:Type} (fail:ρ) (fu:Nat) (K0:Bool→ρ) (x0:Int):ρ :=
 bif (B0 .geq x0 97) then (bif (B0 .leq x0 122) then (p127_1 fail fu K0 true) else (bif (B0 .geq x0 65) then (p127_1 fail fu K0 (B0 .leq x0 90)) else (p127_1 fail fu K0 false))) else (bif (B0 .geq x0 65) then (p127_1 fail fu K0 (B0 .leq x0 90)) else (p127_1 fail fu K0 false))
def p128_1 {ρ:Type} (fail:ρ) (fu:Nat) (K0:KT6 ρ) (x0:ByteArray) (x1 x4 x5 j1 j2:Int):ρ :=
 K0 x0 x1 j1 j2 x4 x5
def p128 {ρ:Type} (fail:ρ) (fu:Nat) (K0:KT6 ρ) (x0:ByteArray) (x1 x2 x3 x4 x5 x6 x7:Int):ρ :=
 bif (B0 .eql x2 0) then (p128_1 fail fu K0 x0 x1 x4 x5 x6 x7) else (p128_1 fail fu K0 x0 x1 x4 x5 x2 x3)
def p141_1 {ρ:Type} (fail:ρ) (fu:Nat) (K0:Bool→ρ) (j1:Bool):ρ :=
 K0 j1
def p141 {ρ:Type} (fail:ρ) (fu:Nat) (K0:Bool→ρ) (x0:Int):ρ :=
 bif (B0 .geq x0 48) then (p141_1 fail fu K0 (B0 .leq x0 57)) else (p141_1 fail fu K0 false)
def p140_1 {ρ:Type} (fail:ρ) (fu:Nat) (K0:Int→ρ) (rec1:Int→ρ) (j4:Int):ρ :=
 rec1 j4
def p140_2 {ρ:Type} (fail:ρ) (fu:Nat) (K0:Int→ρ) (rec1:Int→ρ) (z2:Int) (j5:Bool):ρ :=
 bif j5 then (p140_1 fail fu K0 rec1 (B8 .add .i64 z2 1)) else (K0 z2)
def p140_3 {ρ:Type} (fail:ρ) (fu:Nat) (K0:Int→ρ) (rec1:Int→ρ) (x0:ByteArray) (z2:Int) (j3:Bool):ρ :=
 bif j3 then (p140_1 fail fu K0 rec1 (B8 .add .i64 z2 1)) else (gd (0≤z2) fail (gd (z2 < (x0.size:Nat)) fail (bif (B0 .eql ((List.getD x0.data.toList z2.toNat 0).toNat:Nat) 46) then (bif (B0 .lss (B8 .add .i64 z2 1) ((x0.size:Nat):Int)) then (gd ((0:Int)≤(B8 .add .i64 z2 1)) fail (gd ((B8 .add .i64 z2 1:Int) < (x0.size:Nat)) fail (p127 fail fu (fun y6=>p140_2 fail fu K0 rec1 z2 y6) ((List.getD x0.data.toList (B8 .add .i64 z2 1:Int).toNat 0).toNat:Nat)))) else (p140_2 fail fu K0 rec1 z2 false)) else (p140_2 fail fu K0 rec1 z2 false))))
def p140_4 {ρ:Type} (fail:ρ) (fu:Nat) (K0:Int→ρ) (rec1:Int→ρ) (x0:ByteArray) (z2:Int):ρ :=
 bif (B0 .lss z2 ((x0.size:Nat):Int)) then (gd (0≤z2) fail (gd (z2 < (x0.size:Nat)) fail (p127 fail fu (fun y7=>bif y7 then (p140_3 fail fu K0 rec1 x0 z2 true) else (gd (0≤z2) fail (gd (z2 < (x0.size:Nat)) fail (p141 fail fu (fun y8=>bif y8 then (p140_3 fail fu K0 rec1 x0 z2 true) else (gd (0≤z2) fail (gd (z2 < (x0.size:Nat)) fail (p140_3 fail fu K0 rec1 x0 z2 (B0 .eql ((List.getD x0.data.toList z2.toNat 0).toNat:Nat) 95))))) ((List.getD x0.data.toList z2.toNat 0).toNat:Nat))))) ((List.getD x0.data.toList z2.toNat 0).toNat:Nat)))) else (K0 z2)
def p140_4L {ρ:Type} (fail:ρ) (fu:Nat) (K0:Int→ρ) (x0:ByteArray):Nat→Int→ρ
 | 0,_=>fail
 | n + 1,z2=>p140_4 fail fu K0 (p140_4L fail fu K0 x0 n) x0 z2
def p140_5 {ρ:Type} (fail:ρ) (fu:Nat) (K0:Int→ρ) (x0:ByteArray) (j1:Bool):ρ :=
 bif j1 then (K0 0) else (p140_4L fail fu K0 x0 fu 1)
def p140 {ρ:Type} (fail:ρ) (fu:Nat) (K0:Int→ρ) (x0:ByteArray):ρ :=
 bif (B0 .eql ((x0.size:Nat):Int) 0) then (p140_5 fail fu K0 x0 true) else (gd ((0:Int)≤0) fail (gd ((0:Int) < (x0.size:Nat)) fail (p127 fail fu (fun y9=>p140_5 fail fu K0 x0 (!y9)) ((List.getD x0.data.toList (0:Int).toNat 0).toNat:Nat))))
def p149_1 {ρ:Type} (fail:ρ) (fu:Nat) (K0:KT8 ρ) (j8:ByteArray) (j9 a0 c0 d0 e0 f0:Int):ρ :=
 K0 4 f0 nilE j8 (B8 .add .i64 j9 1) a0 c0 d0 e0
def p149_2 {ρ:Type} (fail:ρ) (fu:Nat) (K0:KT8 ρ) (x0:ByteArray) (x1 x2 x3 x4 x5:Int) (j1:Bool):ρ :=
 bif j1 then (p128 fail fu (fun y2 y3 y4 y5 y6 y7=>K0 0 0 nilE y2 y3 y4 y5 y6 y7) x0 x1 x2 x3 x4 x5 5 x1) else (gd (0≤x1) fail (gd (x1 < (x0.size:Nat)) fail (bif (B0 .geq (IntKind.i64.wrap (B8 .sub .u8 ((List.getD x0.data.toList x1.toNat 0).toNat:Nat) 48)) 4) then (p128 fail fu (fun a0 c0 d0 e0 f0 g0=>p149_1 fail fu K0 a0 c0 d0 e0 f0 g0 (IntKind.i64.wrap (B8 .sub .u8 ((List.getD x0.data.toList x1.toNat 0).toNat:Nat) 48))) x0 x1 x2 x3 x4 x5 7 x1) else (p149_1 fail fu K0 x0 x1 x2 x3 x4 x5 (IntKind.i64.wrap (B8 .sub .u8 ((List.getD x0.data.toList x1.toNat 0).toNat:Nat) 48))))))
def p149 {ρ:Type} (fail:ρ) (fu:Nat) (K0:KT8 ρ) (x0:ByteArray) (x1 x2 x3 x4 x5:Int):ρ :=
 bif (B0 .geq x1 ((x0.size:Nat):Int)) then (p149_2 fail fu K0 x0 x1 x2 x3 x4 x5 true) else (gd (0≤x1) fail (gd (x1 < (x0.size:Nat)) fail (p141 fail fu (fun a0=>p149_2 fail fu K0 x0 x1 x2 x3 x4 x5 (!a0)) ((List.getD x0.data.toList x1.toNat 0).toNat:Nat))))
def p143_1 {ρ:Type} (fail:ρ) (fu:Nat) (s_p143:(Int→Int→EL→ByteArray→Int→Int→Int→Int→Int→ρ)→ByteArray→Int→Int→Int→Int→Int→Int→ρ) (K0:KT8 ρ) (x6:Int) (i0:ByteArray) (j0 l0 m0 n0 o0 q0:Int):ρ :=
 s_p143 (fun a0 c0 d0 r0 s0 t0 v0 w0 x0=>s_p143 (fun e0 f0 g0 y0 z0 a1 c1 d1 e1=>gd (2≤[[(CV.v (.int .i64 a0)),(CV.v (.int .i64 c0)),(CV.sl 3 d0 none)],[(CV.v (.int .i64 e0)),(CV.v (.int .i64 f0)),(CV.sl 3 g0 none)]].length) fail (K0 q0 0 (List.take 2 [[(CV.v (.int .i64 a0)),(CV.v (.int .i64 c0)),(CV.sl 3 d0 none)],[(CV.v (.int .i64 e0)),(CV.v (.int .i64 f0)),(CV.sl 3 g0 none)]]) y0 z0 a1 c1 d1 e1)) r0 s0 t0 v0 w0 x0 (B8 .add .i64 x6 1)) i0 n0 j0 l0 m0 o0 (B8 .add .i64 x6 1)
def p143_2 {ρ:Type} (fail:ρ) (fu:Nat) (s_p143:(Int→Int→EL→ByteArray→Int→Int→Int→Int→Int→ρ)→ByteArray→Int→Int→Int→Int→Int→Int→ρ) (K0:KT8 ρ) (x6 y1:Int) (c0:ByteArray) (d0 a0 e0 f0 g0:Int):ρ :=
 bif (B0 .neq a0 0) then (K0 0 0 nilE c0 d0 a0 e0 f0 g0) else (bif (B0 .eql y1 48) then (K0 0 0 nilE c0 (B8 .add .i64 d0 1) a0 e0 f0 (B8 .sub .i64 g0 1)) else (bif (B0 .eql y1 83) then (s_p143 (fun i0 j0 l0 m0 n0 o0 q0 r0 s0=>gd (1≤[[(CV.v (.int .i64 i0)),(CV.v (.int .i64 j0)),(CV.sl 3 l0 none)]].length) fail (K0 1 0 (List.take 1 [[(CV.v (.int .i64 i0)),(CV.v (.int .i64 j0)),(CV.sl 3 l0 none)]]) m0 n0 o0 q0 r0 s0)) c0 (B8 .add .i64 d0 1) a0 e0 f0 (B8 .sub .i64 g0 1) (B8 .add .i64 x6 1)) else (bif (B0 .eql y1 112) then (p149 fail fu (fun t0 v0 w0 x0 y0 z0 a1 c1 d1=>K0 t0 v0 w0 x0 y0 z0 a1 c1 d1) c0 (B8 .add .i64 d0 1) a0 e0 f0 (B8 .sub .i64 g0 1)) else (bif (B0 .eql y1 73) then (p143_1 fail fu s_p143 K0 x6 c0 a0 e0 f0 (B8 .add .i64 d0 1) (B8 .sub .i64 g0 1) 3) else (p143_1 fail fu s_p143 K0 x6 c0 a0 e0 f0 (B8 .add .i64 d0 1) (B8 .sub .i64 g0 1) 2)))))
def p143_3 {ρ:Type} (fail:ρ) (fu:Nat) (s_p143:(Int→Int→EL→ByteArray→Int→Int→Int→Int→Int→ρ)→ByteArray→Int→Int→Int→Int→Int→Int→ρ) (K0:KT8 ρ) (x6 y1:Int) (c0:ByteArray) (a0 d0 e0 f0 g0:Int):ρ :=
 bif (B0 .gtr x6 32) then (p128 fail fu (fun i0 j0 l0 m0 n0 o0=>p143_2 fail fu s_p143 K0 x6 y1 i0 j0 l0 m0 n0 o0) c0 a0 d0 e0 f0 g0 6 a0) else (p143_2 fail fu s_p143 K0 x6 y1 c0 a0 d0 e0 f0 g0)
def p143_4 {ρ:Type} (fail:ρ) (fu:Nat) (s_p143:(Int→Int→EL→ByteArray→Int→Int→Int→Int→Int→ρ)→ByteArray→Int→Int→Int→Int→Int→Int→ρ) (K0:KT8 ρ) (x6 y1:Int) (y2:ByteArray) (y3 y4 y5 y6 y7:Int) (j8:Bool):ρ :=
 bif j8 then (p128 fail fu (fun y9 a0 c0 d0 e0 f0=>K0 0 0 nilE y9 a0 c0 d0 e0 f0) y2 y3 y4 y5 y6 y7 5 y3) else (bif (B0 .eql y7 0) then (p128 fail fu (fun g0 i0 j0 l0 m0 n0=>p143_3 fail fu s_p143 K0 x6 y1 g0 i0 j0 l0 m0 n0) y2 y3 y4 y5 y6 y7 3 y3) else (p143_3 fail fu s_p143 K0 x6 y1 y2 y3 y4 y5 y6 y7))
def p143_b {ρ:Type} (fail:ρ) (fu:Nat) (s_p143:(Int→Int→EL→ByteArray→Int→Int→Int→Int→Int→ρ)→ByteArray→Int→Int→Int→Int→Int→Int→ρ) (K0:KT8 ρ) (x0:ByteArray) (x1 x2 x3 x4 x5 x6:Int):ρ :=
 p126 fail fu (fun y1 y2 y3 y4 y5 y6 y7=>bif (B0 .geq y3 ((y2.size:Nat):Int)) then (p143_4 fail fu s_p143 K0 x6 y1 y2 y3 y4 y5 y6 y7 true) else (bif (B0 .neq y1 48) then (bif (B0 .neq y1 83) then (bif (B0 .neq y1 77) then (bif (B0 .neq y1 73) then (p143_4 fail fu s_p143 K0 x6 y1 y2 y3 y4 y5 y6 y7 (B0 .neq y1 112)) else (p143_4 fail fu s_p143 K0 x6 y1 y2 y3 y4 y5 y6 y7 false)) else (p143_4 fail fu s_p143 K0 x6 y1 y2 y3 y4 y5 y6 y7 false)) else (p143_4 fail fu s_p143 K0 x6 y1 y2 y3 y4 y5 y6 y7 false)) else (p143_4 fail fu s_p143 K0 x6 y1 y2 y3 y4 y5 y6 y7 false))) x0 x1 x2 x3 x4 x5
def p143 {ρ:Type} (fail:ρ):Nat→(Int→Int→EL→ByteArray→Int→Int→Int→Int→Int→ρ)→ByteArray→Int→Int→Int→Int→Int→Int→ρ
 | 0,_,_,_,_,_,_,_,_=>fail
 | n + 1,K0,x0,x1,x2,x3,x4,x5,x6=>p143_b fail n (p143 fail n) K0 x0 x1 x2 x3 x4 x5 x6
def p131 {ρ:Type} (fail:ρ) (fu:Nat) (K0:KT8 ρ) (x0:ByteArray) (x1 x2 x3 x4 x5:Int):ρ :=
 p143 fail fu (fun y1 y2 y3 y4 y5 y6 y7 y8 y9=>K0 y1 y2 y3 y4 y5 y6 y7 y8 y9) x0 x1 x2 x3 x4 64 1
def p132_1 {ρ:Type} (fail:ρ) (fu:Nat) (K0:KT6 ρ) (j1:ByteArray) (j2 j3 j4 j5 j6:Int) (j7:Bool):ρ :=
 bif j7 then (p128 fail fu (fun y8 y9 a0 c0 d0 e0=>K0 y8 y9 a0 c0 d0 e0) j1 j2 j3 j4 j5 j6 5 (if ((j1.size:Nat):Int) < j2 then ((j1.size:Nat):Int) else j2)) else (K0 j1 (B8 .add .i64 j2 1) j3 j4 j5 j6)
def p132 {ρ:Type} (fail:ρ) (fu:Nat) (K0:KT6 ρ) (x0:ByteArray) (x1 x2 x3 x4 x5 x6:Int):ρ :=
 p126 fail fu (fun i0 a0 c0 d0 e0 f0 g0=>bif (B0 .neq i0 x6) then (p132_1 fail fu K0 a0 c0 d0 e0 f0 g0 true) else (p132_1 fail fu K0 a0 c0 d0 e0 f0 g0 (B0 .geq c0 ((a0.size:Nat):Int)))) x0 x1 x2 x3 x4 x5
def p129_1 {ρ:Type} (fail:ρ) (fu:Nat) (K0:KT9 ρ) (rec1:ByteArray→Int→Int→Int→Int→Int→ByteArray→EL→ρ) (f0:ByteArray) (a0:EL) (w0:ByteArray) (x0 y0 z0 a1 c1:Int):ρ :=
 p131 fail fu (fun c0 d0 e0 i0 j0 g0 l0 m0 n0=>bif (B0 .neq g0 0) then (K0 2 0 f0 a0 nilE i0 j0 g0 l0 m0 n0) else (gd (1≤[[(CV.v (.int .i64 c0)),(CV.v (.int .i64 d0)),(CV.sl 3 e0 none)]].length) fail (gd ((a0.length + (List.take 1 [[(CV.v (.int .i64 c0)),(CV.v (.int .i64 d0)),(CV.sl 3 e0 none)]]).length) * 40≤35184372088832) fail (p126 fail fu (fun d1 o0 q0 r0 s0 t0 v0=>bif (B0 .neq d1 44) then (p132 fail fu (fun e1 f1 g1 i1 j1 l1=>K0 2 0 f0 (a0++(List.take 1 [[(CV.v (.int .i64 c0)),(CV.v (.int .i64 d0)),(CV.sl 3 e0 none)]])) nilE e1 f1 g1 i1 j1 l1) o0 q0 r0 s0 t0 v0 125) else (rec1 o0 (B8 .add .i64 q0 1) r0 s0 t0 v0 f0 (a0++(List.take 1 [[(CV.v (.int .i64 c0)),(CV.v (.int .i64 d0)),(CV.sl 3 e0 none)]])))) i0 j0 g0 l0 m0 n0)))) w0 x0 y0 z0 a1 c1
def p129_2 {ρ:Type} (fail:ρ) (fu:Nat) (K0:KT9 ρ) (rec1:ByteArray→Int→Int→Int→Int→Int→ByteArray→EL→ρ) (a0:ByteArray) (c0:EL) (d0:ByteArray) (e0 f0 g0 i0 j0:Int):ρ :=
 p129_1 fail fu K0 rec1 a0 c0 d0 e0 f0 g0 i0 j0
def p129_3 {ρ:Type} (fail:ρ) (fu:Nat) (K0:KT9 ρ) (rec1:ByteArray→Int→Int→Int→Int→Int→ByteArray→EL→ρ) (c0:ByteArray) (d0:EL) (e0:ByteArray) (a0 f0 g0 i0 j0:Int) (l0:Bool):ρ :=
 bif l0 then (p128 fail fu (fun m0 n0 o0 q0 r0 s0=>p129_2 fail fu K0 rec1 c0 d0 m0 n0 o0 q0 r0 s0) e0 a0 f0 g0 i0 j0 7 a0) else (p129_2 fail fu K0 rec1 c0 d0 e0 a0 f0 g0 i0 j0)
def p129_4 {ρ:Type} (fail:ρ) (fu:Nat) (K0:KT9 ρ) (rec1:ByteArray→Int→Int→Int→Int→Int→ByteArray→EL→ρ) (m0:ByteArray) (n0 o0 q0 r0 s0:Int) (c0:ByteArray) (a0:EL):ρ :=
 bif (B0 .eql ((a0.length:Nat):Int) 4) then (p126 fail fu (fun l0 d0 e0 f0 g0 i0 j0=>bif (B0 .lss e0 ((d0.size:Nat):Int)) then (bif (B0 .eql l0 48) then (p129_3 fail fu K0 rec1 c0 a0 d0 e0 f0 g0 i0 j0 true) else (bif (B0 .eql l0 83) then (p129_3 fail fu K0 rec1 c0 a0 d0 e0 f0 g0 i0 j0 true) else (bif (B0 .eql l0 77) then (p129_3 fail fu K0 rec1 c0 a0 d0 e0 f0 g0 i0 j0 true) else (bif (B0 .eql l0 73) then (p129_3 fail fu K0 rec1 c0 a0 d0 e0 f0 g0 i0 j0 true) else (p129_3 fail fu K0 rec1 c0 a0 d0 e0 f0 g0 i0 j0 (B0 .eql l0 112)))))) else (p129_3 fail fu K0 rec1 c0 a0 d0 e0 f0 g0 i0 j0 false)) m0 n0 o0 q0 r0 s0) else (p129_1 fail fu K0 rec1 c0 a0 m0 n0 o0 q0 r0 s0)
def p129_4L {ρ:Type} (fail:ρ) (fu:Nat) (K0:KT9 ρ):Nat→ByteArray→Int→Int→Int→Int→Int→ByteArray→EL→ρ
 | 0,_,_,_,_,_,_,_,_=>fail
 | n + 1,a0,c0,d0,e0,f0,g0,i0,j0=>p129_4 fail fu K0 (p129_4L fail fu K0 n) a0 c0 d0 e0 f0 g0 i0 j0
def p129 {ρ:Type} (fail:ρ) (fu:Nat) (K0:KT9 ρ) (x0:ByteArray) (x1 x2 x3 x4 x5:Int):ρ :=
 gd (0≤x1) fail (gd (x1≤(x0.size:Nat)) fail (gd (((x0.size:Nat):Int)≤(x0.size:Nat)) fail (p140 fail fu (fun y1=>bif (B0 .gtr y1 24) then (p128 fail fu (fun y2 y3 y4 y5 y6 y7=>K0 0 0 ⟨#[]⟩ nilE nilE y2 y3 y4 y5 y6 y7) x0 x1 x2 x3 x4 x5 3 x1) else (gd (0≤x1) fail (gd (x1≤(B8 .add .i64 x1 y1)) fail (gd ((B8 .add .i64 x1 y1:Int)≤(x0.size:Nat)) fail (p126 fail fu (fun y8 y9 a0 c0 d0 e0 f0=>bif (B0 .neq y8 123) then (K0 2 0 (x0.extract x1.toNat (B8 .add .i64 x1 y1:Int).toNat) nilE nilE y9 a0 c0 d0 e0 f0) else (p129_4L fail fu K0 fu y9 (B8 .add .i64 a0 1) c0 d0 e0 f0 (x0.extract x1.toNat (B8 .add .i64 x1 y1:Int).toNat) nilE)) x0 (B8 .add .i64 x1 y1) x2 x3 x4 x5))))) (x0.extract x1.toNat ((x0.size:Nat):Int).toNat))))
def p142_1 {ρ:Type} (fail:ρ) (fu:Nat) (K0:KT6 ρ) (j2:ByteArray) (j3 j4 j5 j6 j7:Int):ρ :=
 K0 j2 j3 j4 j5 j6 j7
def p142_2 {ρ:Type} (fail:ρ) (fu:Nat) (K0:KT6 ρ) (x0:ByteArray) (x1 x2 x3 x4 x5:Int) (j1:Bool):ρ :=
 bif j1 then (p128 fail fu (fun y8 y9 a0 c0 d0 e0=>p142_1 fail fu K0 y8 y9 a0 c0 d0 e0) x0 x1 x2 x3 x4 x5 5 x1) else (p142_1 fail fu K0 x0 x1 x2 x3 x4 x5)
def p142 {ρ:Type} (fail:ρ) (fu:Nat) (K0:KT6 ρ) (x0:ByteArray) (x1 x2 x3 x4 x5:Int):ρ :=
 bif (B0 .lss x1 ((x0.size:Nat):Int)) then (gd (0≤x1) fail (gd (x1 < (x0.size:Nat)) fail (p127 fail fu (fun a0=>bif a0 then (p142_2 fail fu K0 x0 x1 x2 x3 x4 x5 true) else (gd (0≤x1) fail (gd (x1 < (x0.size:Nat)) fail (p141 fail fu (fun c0=>p142_2 fail fu K0 x0 x1 x2 x3 x4 x5 c0) ((List.getD x0.data.toList x1.toNat 0).toNat:Nat))))) ((List.getD x0.data.toList x1.toNat 0).toNat:Nat)))) else (p142_2 fail fu K0 x0 x1 x2 x3 x4 x5 false)
def p130_1 {ρ:Type} (fail:ρ) (fu:Nat) (K0:KT7 ρ) (rec1:Int→ρ) (x0:ByteArray) (x2 x3 x4 x5 z1:Int) (j9:Bool):ρ :=
 bif j9 then (p128 fail fu (fun a0 c0 d0 e0 f0 g0=>K0 0 a0 c0 d0 e0 f0 g0) x0 z1 x2 x3 x4 x5 5 z1) else (rec1 (B8 .add .i64 z1 1))
def p130_2 {ρ:Type} (fail:ρ) (fu:Nat) (K0:KT7 ρ) (rec2:Int→Int→ρ) (x0:ByteArray) (x2 x3 x4 x5 z1 c0 a0:Int):ρ :=
 bif (B0 .lss a0 z1) then (gd (0≤a0) fail (gd (a0 < (x0.size:Nat)) fail (rec2 (B8 .add .i64 (B8 .mul .i64 c0 10) (IntKind.i64.wrap (B8 .sub .u8 ((List.getD x0.data.toList a0.toNat 0).toNat:Nat) 48))) (B8 .add .i64 a0 1)))) else (p142 fail fu (fun d0 e0 f0 g0 i0 j0=>K0 c0 d0 e0 f0 g0 i0 j0) x0 z1 x2 x3 x4 x5)
def p130_2L {ρ:Type} (fail:ρ) (fu:Nat) (K0:KT7 ρ) (x0:ByteArray) (x2 x3 x4 x5 z1:Int):Nat→Int→Int→ρ
 | 0,_,_=>fail
 | n + 1,a0,c0=>p130_2 fail fu K0 (p130_2L fail fu K0 x0 x2 x3 x4 x5 z1 n) x0 x2 x3 x4 x5 z1 a0 c0
def p130_3 {ρ:Type} (fail:ρ) (fu:Nat) (K0:KT7 ρ) (rec1:Int→ρ) (x0:ByteArray) (x1 x2 x3 x4 x5 z1:Int) (j2:Bool):ρ :=
 bif j2 then (bif (B0 .eql (B8 .sub .i64 z1 x1) 7) then (p128 fail fu (fun y3 y4 y5 y6 y7 y8=>K0 0 y3 y4 y5 y6 y7 y8) x0 z1 x2 x3 x4 x5 3 x1) else (bif (B0 .eql z1 (B8 .add .i64 x1 1)) then (gd (0≤x1) fail (gd (x1 < (x0.size:Nat)) fail (p130_1 fail fu K0 rec1 x0 x2 x3 x4 x5 z1 (B0 .eql ((List.getD x0.data.toList x1.toNat 0).toNat:Nat) 48)))) else (p130_1 fail fu K0 rec1 x0 x2 x3 x4 x5 z1 false))) else (bif (B0 .eql z1 x1) then (p128 fail fu (fun a0 c0 d0 e0 f0 g0=>K0 0 a0 c0 d0 e0 f0 g0) x0 z1 x2 x3 x4 x5 5 z1) else (p130_2L fail fu K0 x0 x2 x3 x4 x5 z1 fu 0 x1))
def p130_4 {ρ:Type} (fail:ρ) (fu:Nat) (K0:KT7 ρ) (rec1:Int→ρ) (x0:ByteArray) (x1 x2 x3 x4 x5 z1:Int):ρ :=
 bif (B0 .lss z1 ((x0.size:Nat):Int)) then (gd (0≤z1) fail (gd (z1 < (x0.size:Nat)) fail (p141 fail fu (fun a0=>p130_3 fail fu K0 rec1 x0 x1 x2 x3 x4 x5 z1 a0) ((List.getD x0.data.toList z1.toNat 0).toNat:Nat)))) else (p130_3 fail fu K0 rec1 x0 x1 x2 x3 x4 x5 z1 false)
def p130_4L {ρ:Type} (fail:ρ) (fu:Nat) (K0:KT7 ρ) (x0:ByteArray) (x1 x2 x3 x4 x5:Int):Nat→Int→ρ
 | 0,_=>fail
 | n + 1,z1=>p130_4 fail fu K0 (p130_4L fail fu K0 x0 x1 x2 x3 x4 x5 n) x0 x1 x2 x3 x4 x5 z1
def p130 {ρ:Type} (fail:ρ) (fu:Nat) (K0:KT7 ρ) (x0:ByteArray) (x1 x2 x3 x4 x5:Int):ρ :=
 p130_4L fail fu K0 x0 x1 x2 x3 x4 x5 fu x1
def p96_1 {ρ:Type} (fail:ρ) (fu:Nat) (s_p96:(Int→Int→ByteArray→EL→EL→ByteArray→Int→Int→Int→Int→Int→ρ)→ByteArray→Int→Int→Int→Int→Int→Int→ρ) (K0:KT9 ρ) (a0:EL) (c0:ByteArray) (d0 e0 f0 g0 i0 j0:Int):ρ :=
 gd (2≤a0.length) fail (K0 j0 0 ⟨#[]⟩ nilE (List.take 2 a0) c0 d0 e0 f0 g0 i0)
def p96_2 {ρ:Type} (fail:ρ) (fu:Nat) (s_p96:(Int→Int→ByteArray→EL→EL→ByteArray→Int→Int→Int→Int→Int→ρ)→ByteArray→Int→Int→Int→Int→Int→Int→ρ) (K0:KT9 ρ) (y1:Int) (a0:EL) (c0:ByteArray) (d0 e0 f0 g0 i0:Int):ρ :=
 bif (B0 .eql y1 33) then (p96_1 fail fu s_p96 K0 a0 c0 d0 e0 f0 g0 i0 5) else (p96_1 fail fu s_p96 K0 a0 c0 d0 e0 f0 g0 i0 4)
def p96_3 {ρ:Type} (fail:ρ) (fu:Nat) (s_p96:(Int→Int→ByteArray→EL→EL→ByteArray→Int→Int→Int→Int→Int→ρ)→ByteArray→Int→Int→Int→Int→Int→Int→ρ) (K0:KT9 ρ) (x6 y1:Int) (c0:ByteArray) (d0 a0 e0 f0 g0:Int):ρ :=
 bif (B0 .neq a0 0) then (K0 0 0 ⟨#[]⟩ nilE nilE c0 d0 a0 e0 f0 g0) else (p127 fail fu (fun d4=>bif d4 then (p129 fail fu (fun e4 f4 g4 i4 j4 l4 m4 n4 o4 r4 s4=>K0 e4 f4 g4 i4 j4 l4 m4 n4 o4 r4 s4) c0 d0 a0 e0 (B8 .sub .i64 f0 1) g0) else (bif (B0 .eql y1 35) then (p130 fail fu (fun t4 v4 w4 x4 y4 z4 a5=>K0 0 t4 ⟨#[]⟩ nilE nilE v4 w4 x4 y4 z4 a5) c0 (B8 .add .i64 d0 1) a0 e0 (B8 .sub .i64 f0 1) g0) else (bif (B0 .eql y1 42) then (p131 fail fu (fun e3 f3 g3 c5 d5 e5 f5 g5 i5=>gd (1≤[[(CV.v (.int .i64 e3)),(CV.v (.int .i64 f3)),(CV.sl 3 g3 none)]].length) fail (K0 1 0 ⟨#[]⟩ (List.take 1 [[(CV.v (.int .i64 e3)),(CV.v (.int .i64 f3)),(CV.sl 3 g3 none)]]) nilE c5 d5 e5 f5 g5 i5)) c0 (B8 .add .i64 d0 1) a0 e0 (B8 .sub .i64 f0 1) g0) else (bif (B0 .eql y1 40) then (s_p96 (fun i3 j3 l3 n3 o3 j5 l5 n5 o5 r5 s5=>s_p96 (fun r3 s3 t3 v3 w3 t5 v5 w5 x5 y5 z5=>p132 fail fu (fun a6 c6 d6 e6 f6 g6=>gd (2≤[[(CV.v (.int .i64 i3)),(CV.v (.int .i64 j3)),(CV.v (.string l3)),(CV.sl 3 n3 none),(CV.sl 5 o3 none)],[(CV.v (.int .i64 r3)),(CV.v (.int .i64 s3)),(CV.v (.string t3)),(CV.sl 3 v3 none),(CV.sl 5 w3 none)]].length) fail (K0 3 0 ⟨#[]⟩ nilE (List.take 2 [[(CV.v (.int .i64 i3)),(CV.v (.int .i64 j3)),(CV.v (.string l3)),(CV.sl 3 n3 none),(CV.sl 5 o3 none)],[(CV.v (.int .i64 r3)),(CV.v (.int .i64 s3)),(CV.v (.string t3)),(CV.sl 3 v3 none),(CV.sl 5 w3 none)]]) a6 c6 d6 e6 f6 g6)) t5 v5 w5 x5 y5 z5 41) j5 l5 n5 o5 r5 s5 (B8 .add .i64 x6 1)) c0 (B8 .add .i64 d0 1) a0 e0 (B8 .sub .i64 f0 1) g0 (B8 .add .i64 x6 1)) else (bif (B0 .eql y1 61) then (s_p96 (fun x3 y3 z3 a4 c4 i6 j6 l6 n6 o6 r6=>p132 fail fu (fun s6 t6 v6 w6 y6 z6=>s_p96 (fun i0 j0 l0 m0 n0 v0 w0 x0 y0 z0 a1=>p132 fail fu (fun c1 d1 e1 f1 g1 i1=>s_p96 (fun o0 q0 r0 s0 t0 j1 l1 m1 o1 q1 r1=>gd (3≤[[(CV.v (.int .i64 x3)),(CV.v (.int .i64 y3)),(CV.v (.string z3)),(CV.sl 3 a4 none),(CV.sl 5 c4 none)],[(CV.v (.int .i64 i0)),(CV.v (.int .i64 j0)),(CV.v (.string l0)),(CV.sl 3 m0 none),(CV.sl 5 n0 none)],[(CV.v (.int .i64 o0)),(CV.v (.int .i64 q0)),(CV.v (.string r0)),(CV.sl 3 s0 none),(CV.sl 5 t0 none)]].length) fail (K0 6 0 ⟨#[]⟩ nilE (List.take 3 [[(CV.v (.int .i64 x3)),(CV.v (.int .i64 y3)),(CV.v (.string z3)),(CV.sl 3 a4 none),(CV.sl 5 c4 none)],[(CV.v (.int .i64 i0)),(CV.v (.int .i64 j0)),(CV.v (.string l0)),(CV.sl 3 m0 none),(CV.sl 5 n0 none)],[(CV.v (.int .i64 o0)),(CV.v (.int .i64 q0)),(CV.v (.string r0)),(CV.sl 3 s0 none),(CV.sl 5 t0 none)]]) j1 l1 m1 o1 q1 r1)) c1 d1 e1 f1 g1 i1 (B8 .add .i64 x6 1)) v0 w0 x0 y0 z0 a1 46) s6 t6 v6 w6 y6 z6 (B8 .add .i64 x6 1)) i6 j6 l6 n6 o6 r6 58) c0 (B8 .add .i64 d0 1) a0 e0 (B8 .sub .i64 f0 1) g0 (B8 .add .i64 x6 1)) else (s_p96 (fun s1 t1 v1 w1 x1 z1 a2 c2 d2 e2 f2=>p132 fail fu (fun g2 i2 j2 l2 m2 o2=>s_p96 (fun r2 s2 t2 v2 w2 x2 y2 z2 a3 c3 d3=>p96_2 fail fu s_p96 K0 y1 [[(CV.v (.int .i64 s1)),(CV.v (.int .i64 t1)),(CV.v (.string v1)),(CV.sl 3 w1 none),(CV.sl 5 x1 none)],[(CV.v (.int .i64 r2)),(CV.v (.int .i64 s2)),(CV.v (.string t2)),(CV.sl 3 v2 none),(CV.sl 5 w2 none)]] x2 y2 z2 a3 c3 d3) g2 i2 j2 l2 m2 o2 (B8 .add .i64 x6 1)) z1 a2 c2 d2 e2 f2 46) c0 (B8 .add .i64 d0 1) a0 e0 (B8 .sub .i64 f0 1) g0 (B8 .add .i64 x6 1))))))) y1)
def p96_4 {ρ:Type} (fail:ρ) (fu:Nat) (s_p96:(Int→Int→ByteArray→EL→EL→ByteArray→Int→Int→Int→Int→Int→ρ)→ByteArray→Int→Int→Int→Int→Int→Int→ρ) (K0:KT9 ρ) (x6 y1:Int) (j0:ByteArray) (a0 l0 m0 n0 o0:Int):ρ :=
 bif (B0 .gtr x6 100) then (p128 fail fu (fun c0 d0 e0 f0 g0 i0=>p96_3 fail fu s_p96 K0 x6 y1 c0 d0 e0 f0 g0 i0) j0 a0 l0 m0 n0 o0 6 a0) else (p96_3 fail fu s_p96 K0 x6 y1 j0 a0 l0 m0 n0 o0)
def p96_5 {ρ:Type} (fail:ρ) (fu:Nat) (s_p96:(Int→Int→ByteArray→EL→EL→ByteArray→Int→Int→Int→Int→Int→ρ)→ByteArray→Int→Int→Int→Int→Int→Int→ρ) (K0:KT9 ρ) (x6 y1:Int) (y2:ByteArray) (y3 y4 y5 y6 y7:Int) (j8:Bool):ρ :=
 bif j8 then (p128 fail fu (fun y9 i0 j0 l0 m0 n0=>K0 0 0 ⟨#[]⟩ nilE nilE y9 i0 j0 l0 m0 n0) y2 y3 y4 y5 y6 y7 5 y3) else (bif (B0 .eql y6 0) then (p128 fail fu (fun a0 c0 d0 e0 f0 g0=>p96_4 fail fu s_p96 K0 x6 y1 a0 c0 d0 e0 f0 g0) y2 y3 y4 y5 y6 y7 3 y3) else (p96_4 fail fu s_p96 K0 x6 y1 y2 y3 y4 y5 y6 y7))
def p96_b {ρ:Type} (fail:ρ) (fu:Nat) (s_p96:(Int→Int→ByteArray→EL→EL→ByteArray→Int→Int→Int→Int→Int→ρ)→ByteArray→Int→Int→Int→Int→Int→Int→ρ) (K0:KT9 ρ) (x0:ByteArray) (x1 x2 x3 x4 x5 x6:Int):ρ :=
 p126 fail fu (fun y1 y2 y3 y4 y5 y6 y7=>bif (B0 .geq y3 ((y2.size:Nat):Int)) then (p96_5 fail fu s_p96 K0 x6 y1 y2 y3 y4 y5 y6 y7 true) else (bif (B0 .neq y1 35) then (bif (B0 .neq y1 42) then (bif (B0 .neq y1 40) then (bif (B0 .neq y1 92) then (bif (B0 .neq y1 33) then (bif (B0 .neq y1 61) then (p127 fail fu (fun a0=>p96_5 fail fu s_p96 K0 x6 y1 y2 y3 y4 y5 y6 y7 (!a0)) y1) else (p96_5 fail fu s_p96 K0 x6 y1 y2 y3 y4 y5 y6 y7 false)) else (p96_5 fail fu s_p96 K0 x6 y1 y2 y3 y4 y5 y6 y7 false)) else (p96_5 fail fu s_p96 K0 x6 y1 y2 y3 y4 y5 y6 y7 false)) else (p96_5 fail fu s_p96 K0 x6 y1 y2 y3 y4 y5 y6 y7 false)) else (p96_5 fail fu s_p96 K0 x6 y1 y2 y3 y4 y5 y6 y7 false)) else (p96_5 fail fu s_p96 K0 x6 y1 y2 y3 y4 y5 y6 y7 false))) x0 x1 x2 x3 x4 x5
def p96 {ρ:Type} (fail:ρ):Nat→(Int→Int→ByteArray→EL→EL→ByteArray→Int→Int→Int→Int→Int→ρ)→ByteArray→Int→Int→Int→Int→Int→Int→ρ
 | 0,_,_,_,_,_,_,_,_=>fail
 | n + 1,K0,x0,x1,x2,x3,x4,x5,x6=>p96_b fail n (p96 fail n) K0 x0 x1 x2 x3 x4 x5 x6
def p97_1 {ρ:Type} (fail:ρ) (fu:Nat) (K0:KT6 ρ) (j7:ByteArray) (j8 j9 a0 c0 d0:Int):ρ :=
 K0 j7 j8 j9 a0 c0 d0
def p97 {ρ:Type} (fail:ρ) (fu:Nat) (K0:KT6 ρ) (x0:ByteArray) (x1 x2 x3 x4 x5:Int):ρ :=
 p133 fail fu (fun y1 y2 y3 y4 y5 y6=>bif (B0 .lss y2 ((y1.size:Nat):Int)) then (p128 fail fu (fun a0 c0 d0 e0 f0 g0=>p97_1 fail fu K0 a0 c0 d0 e0 f0 g0) y1 y2 y3 y4 y5 y6 5 y2) else (p97_1 fail fu K0 y1 y2 y3 y4 y5 y6)) x0 x1 x2 x3 x4 x5
def p69 {ρ:Type} (fail:ρ) (fu:Nat) (K0:k5t ρ) (x0:ByteArray):ρ :=
 bif (B0 .gtr ((x0.size:Nat):Int) 4000) then (K0 0 0 ⟨#[]⟩ nilE nilE 0 3) else (p96 fail fu (fun y1 y2 y3 y4 y5 y6 y7 y8 y9 c0 d0=>p97 fail fu (fun f0 g0 a0 e0 i0 j0=>bif (B0 .neq a0 0) then (K0 0 0 ⟨#[]⟩ nilE nilE e0 a0) else (K0 y1 y2 y3 y4 y5 0 0)) y6 y7 y8 y9 c0 d0) x0 0 0 0 2000 0 1)
def p26 {ρ:Type} (fail:ρ) (fu:Nat) (K0:KT5 ρ) (x0:ByteArray):ρ :=
 p69 fail fu (fun y1 y2 y3 y4 y5 y6 y7=>K0 y1 y2 y3 y4 y5) x0
def p59 {ρ:Type} (fail:ρ) (fu:Nat) (K0:KT5 ρ) (x0:ByteArray):ρ :=
 p26 fail fu (fun y1 y2 y3 y4 y5=>K0 y1 y2 y3 y4 y5) x0
def pt0:Tm:=.mk 2 0 ⟨#[78,97,116]⟩ [] []
theorem L4:pt0.thin:=by simp [pt0,Tm.thin,Tm.thins,Lv.thin,Lv.thins]
theorem k4m {ρ:Type} (fail:ρ) (fu:Nat) (hf:600≤fu) (K:Int→Int→ByteArray→EL→EL→ρ):p26 fail fu K ⟨#[78,97,116]⟩=K pt0.k pt0.n pt0.nm (Lv.rows pt0.ls) (Tm.rows pt0.args):=by
 obtain⟨m,rfl⟩:∃ m,fu=m + 600:=⟨fu - 600,by omega⟩
 kernel_rfl
theorem X9 {ρ:Type} (fail:ρ) (fu:Nat) (hf:600≤fu) (K:Int→Int→ByteArray→EL→EL→ρ):p59 fail fu K ⟨#[78,97,116]⟩=K pt0.k pt0.n pt0.nm (Lv.rows pt0.ls) (Tm.rows pt0.args):=by rw [p59,k4m fail fu hf]
def pt1:Tm:=.mk 2 0 ⟨#[115,117,99,99]⟩ [] []
theorem z5u:pt1.thin:=by simp [pt1,Tm.thin,Tm.thins,Lv.thin,Lv.thins]
theorem w7m {ρ:Type} (fail:ρ) (fu:Nat) (hf:600≤fu) (K:Int→Int→ByteArray→EL→EL→ρ):p26 fail fu K ⟨#[115,117,99,99]⟩=K pt1.k pt1.n pt1.nm (Lv.rows pt1.ls) (Tm.rows pt1.args):=by
 obtain⟨m,rfl⟩:∃ m,fu=m + 600:=⟨fu - 600,by omega⟩
 kernel_rfl
theorem k4l {ρ:Type} (fail:ρ) (fu:Nat) (hf:600≤fu) (K:Int→Int→ByteArray→EL→EL→ρ):p59 fail fu K ⟨#[115,117,99,99]⟩=K pt1.k pt1.n pt1.nm (Lv.rows pt1.ls) (Tm.rows pt1.args):=by rw [p59,w7m fail fu hf]
def pt2:Tm:=.mk 2 0 ⟨#[97,100,100]⟩ [] []
theorem w1h:pt2.thin:=by simp [pt2,Tm.thin,Tm.thins,Lv.thin,Lv.thins]
theorem k0x {ρ:Type} (fail:ρ) (fu:Nat) (hf:600≤fu) (K:Int→Int→ByteArray→EL→EL→ρ):p26 fail fu K ⟨#[97,100,100]⟩=K pt2.k pt2.n pt2.nm (Lv.rows pt2.ls) (Tm.rows pt2.args):=by
 obtain⟨m,rfl⟩:∃ m,fu=m + 600:=⟨fu - 600,by omega⟩
 kernel_rfl
def pt3:Tm:=.mk 2 0 ⟨#[116,119,111]⟩ [] []
theorem w7l:pt3.thin:=by simp [pt3,Tm.thin,Tm.thins,Lv.thin,Lv.thins]
theorem k4k {ρ:Type} (fail:ρ) (fu:Nat) (hf:600≤fu) (K:Int→Int→ByteArray→EL→EL→ρ):p26 fail fu K ⟨#[116,119,111]⟩=K pt3.k pt3.n pt3.nm (Lv.rows pt3.ls) (Tm.rows pt3.args):=by
 obtain⟨m,rfl⟩:∃ m,fu=m + 600:=⟨fu - 600,by omega⟩
 kernel_rfl
theorem k4j {ρ:Type} (fail:ρ) (fu:Nat) (hf:600≤fu) (K:Int→Int→ByteArray→EL→EL→ρ):p59 fail fu K ⟨#[116,119,111]⟩=K pt3.k pt3.n pt3.nm (Lv.rows pt3.ls) (Tm.rows pt3.args):=by rw [p59,k4k fail fu hf]
def pt4:Tm:=.mk 2 0 ⟨#[105,100]⟩ [.mk 1 0 [.mk 0 0 []]] []
theorem z5t:pt4.thin:=by simp [pt4,Tm.thin,Tm.thins,Lv.thin,Lv.thins]
theorem w7k {ρ:Type} (fail:ρ) (fu:Nat) (hf:600≤fu) (K:Int→Int→ByteArray→EL→EL→ρ):p26 fail fu K ⟨#[105,100,123,83,48,125]⟩=K pt4.k pt4.n pt4.nm (Lv.rows pt4.ls) (Tm.rows pt4.args):=by
 obtain⟨m,rfl⟩:∃ m,fu=m + 600:=⟨fu - 600,by omega⟩
 kernel_rfl
def pt5:Tm:=.mk 2 0 ⟨#[122,101,114,111]⟩ [] []
theorem w1g:pt5.thin:=by simp [pt5,Tm.thin,Tm.thins,Lv.thin,Lv.thins]
theorem k4i {ρ:Type} (fail:ρ) (fu:Nat) (hf:600≤fu) (K:Int→Int→ByteArray→EL→EL→ρ):p26 fail fu K ⟨#[122,101,114,111]⟩=K pt5.k pt5.n pt5.nm (Lv.rows pt5.ls) (Tm.rows pt5.args):=by
 obtain⟨m,rfl⟩:∃ m,fu=m + 600:=⟨fu - 600,by omega⟩
 kernel_rfl
theorem k0w {ρ:Type} (fail:ρ) (fu:Nat) (hf:600≤fu) (K:Int→Int→ByteArray→EL→EL→ρ):p59 fail fu K ⟨#[122,101,114,111]⟩=K pt5.k pt5.n pt5.nm (Lv.rows pt5.ls) (Tm.rows pt5.args):=by rw [p59,k4i fail fu hf]
def pt6:Tm:=.mk 2 0 ⟨#[78,97,116,46,114,101,99]⟩ [.mk 1 0 [.mk 0 0 []]] []
theorem w7j:pt6.thin:=by simp [pt6,Tm.thin,Tm.thins,Lv.thin,Lv.thins]
theorem k4h {ρ:Type} (fail:ρ) (fu:Nat) (hf:600≤fu) (K:Int→Int→ByteArray→EL→EL→ρ):p26 fail fu K ⟨#[78,97,116,46,114,101,99,123,83,48,125]⟩=K pt6.k pt6.n pt6.nm (Lv.rows pt6.ls) (Tm.rows pt6.args):=by
 obtain⟨m,rfl⟩:∃ m,fu=m + 600:=⟨fu - 600,by omega⟩
 kernel_rfl
def pt7:Tm:=.mk 4 0 ⟨#[]⟩ [] [.mk 2 0 ⟨#[78,97,116]⟩ [] [],.mk 2 0 ⟨#[78,97,116]⟩ [] []]
theorem w7i:pt7.thin:=by simp [pt7,Tm.thin,Tm.thins,Lv.thin,Lv.thins]
theorem k4g {ρ:Type} (fail:ρ) (fu:Nat) (hf:600≤fu) (K:Int→Int→ByteArray→EL→EL→ρ):p26 fail fu K ⟨#[92,78,97,116,46,32,78,97,116]⟩=K pt7.k pt7.n pt7.nm (Lv.rows pt7.ls) (Tm.rows pt7.args):=by
 obtain⟨m,rfl⟩:∃ m,fu=m + 600:=⟨fu - 600,by omega⟩
 kernel_rfl
def pt8:Tm:=.mk 5 0 ⟨#[]⟩ [] [.mk 2 0 ⟨#[78,97,116]⟩ [] [],.mk 2 0 ⟨#[78,97,116]⟩ [] []]
theorem w7h:pt8.thin:=by simp [pt8,Tm.thin,Tm.thins,Lv.thin,Lv.thins]
theorem k4f {ρ:Type} (fail:ρ) (fu:Nat) (hf:600≤fu) (K:Int→Int→ByteArray→EL→EL→ρ):p26 fail fu K ⟨#[33,78,97,116,46,32,78,97,116]⟩=K pt8.k pt8.n pt8.nm (Lv.rows pt8.ls) (Tm.rows pt8.args):=by
 obtain⟨m,rfl⟩:∃ m,fu=m + 600:=⟨fu - 600,by omega⟩
 kernel_rfl
def pt9:Tm:=.mk 2 0 ⟨#[69,113]⟩ [.mk 1 0 [.mk 0 0 []]] []
theorem w1f:pt9.thin:=by simp [pt9,Tm.thin,Tm.thins,Lv.thin,Lv.thins]
theorem k0v {ρ:Type} (fail:ρ) (fu:Nat) (hf:600≤fu) (K:Int→Int→ByteArray→EL→EL→ρ):p26 fail fu K ⟨#[69,113,123,83,48,125]⟩=K pt9.k pt9.n pt9.nm (Lv.rows pt9.ls) (Tm.rows pt9.args):=by
 obtain⟨m,rfl⟩:∃ m,fu=m + 600:=⟨fu - 600,by omega⟩
 kernel_rfl
def pt10:Tm:=.mk 2 0 ⟨#[65,110,100]⟩ [] []
theorem z7w:pt10.thin:=by simp [pt10,Tm.thin,Tm.thins,Lv.thin,Lv.thins]
theorem w7p {ρ:Type} (fail:ρ) (fu:Nat) (hf:600≤fu) (K:Int→Int→ByteArray→EL→EL→ρ):p26 fail fu K ⟨#[65,110,100]⟩=K pt10.k pt10.n pt10.nm (Lv.rows pt10.ls) (Tm.rows pt10.args):=by
 obtain⟨m,rfl⟩:∃ m,fu=m + 600:=⟨fu - 600,by omega⟩
 kernel_rfl
def pt11:Tm:=.mk 2 0 ⟨#[110,111,116]⟩ [] []
theorem w5s:pt11.thin:=by simp [pt11,Tm.thin,Tm.thins,Lv.thin,Lv.thins]
theorem k2u {ρ:Type} (fail:ρ) (fu:Nat) (hf:600≤fu) (K:Int→Int→ByteArray→EL→EL→ρ):p26 fail fu K ⟨#[110,111,116]⟩=K pt11.k pt11.n pt11.nm (Lv.rows pt11.ls) (Tm.rows pt11.args):=by
 obtain⟨m,rfl⟩:∃ m,fu=m + 600:=⟨fu - 600,by omega⟩
 kernel_rfl
def pt12:Tm:=.mk 1 0 ⟨#[]⟩ [.mk 0 0 []] []
theorem z7v:pt12.thin:=by simp [pt12,Tm.thin,Tm.thins,Lv.thin,Lv.thins]
theorem k2t {ρ:Type} (fail:ρ) (fu:Nat) (hf:600≤fu) (K:Int→Int→ByteArray→EL→EL→ρ):p26 fail fu K ⟨#[42,48]⟩=K pt12.k pt12.n pt12.nm (Lv.rows pt12.ls) (Tm.rows pt12.args):=by
 obtain⟨m,rfl⟩:∃ m,fu=m + 600:=⟨fu - 600,by omega⟩
 kernel_rfl
theorem w7o {ρ:Type} (fail:ρ) (fu:Nat) (hf:600≤fu) (K:Int→Int→ByteArray→EL→EL→ρ):p59 fail fu K ⟨#[42,48]⟩=K pt12.k pt12.n pt12.nm (Lv.rows pt12.ls) (Tm.rows pt12.args):=by rw [p59,k2t fail fu hf]
def pt13:Tm:=.mk 2 0 ⟨#[80]⟩ [] []
theorem z1m:pt13.thin:=by simp [pt13,Tm.thin,Tm.thins,Lv.thin,Lv.thins]
theorem z9i {ρ:Type} (fail:ρ) (fu:Nat) (hf:600≤fu) (K:Int→Int→ByteArray→EL→EL→ρ):p26 fail fu K ⟨#[80]⟩=K pt13.k pt13.n pt13.nm (Lv.rows pt13.ls) (Tm.rows pt13.args):=by
 obtain⟨m,rfl⟩:∃ m,fu=m + 600:=⟨fu - 600,by omega⟩
 kernel_rfl
def pt14:Tm:=.mk 2 0 ⟨#[69,113,46,114,101,102,108]⟩ [.mk 1 0 [.mk 0 0 []]] []
theorem w5r:pt14.thin:=by simp [pt14,Tm.thin,Tm.thins,Lv.thin,Lv.thins]
theorem k2s {ρ:Type} (fail:ρ) (fu:Nat) (hf:600≤fu) (K:Int→Int→ByteArray→EL→EL→ρ):p26 fail fu K ⟨#[69,113,46,114,101,102,108,123,83,48,125]⟩=K pt14.k pt14.n pt14.nm (Lv.rows pt14.ls) (Tm.rows pt14.args):=by
 obtain⟨m,rfl⟩:∃ m,fu=m + 600:=⟨fu - 600,by omega⟩
 kernel_rfl
def pt15:Tm:=.mk 2 0 ⟨#[65,110,100,46,109,107]⟩ [] []
theorem w5q:pt15.thin:=by simp [pt15,Tm.thin,Tm.thins,Lv.thin,Lv.thins]
theorem k2r {ρ:Type} (fail:ρ) (fu:Nat) (hf:600≤fu) (K:Int→Int→ByteArray→EL→EL→ρ):p26 fail fu K ⟨#[65,110,100,46,109,107]⟩=K pt15.k pt15.n pt15.nm (Lv.rows pt15.ls) (Tm.rows pt15.args):=by
 obtain⟨m,rfl⟩:∃ m,fu=m + 600:=⟨fu - 600,by omega⟩
 kernel_rfl
def pt16:Tm:=.mk 2 0 ⟨#[105,100]⟩ [.mk 0 0 []] []
theorem w5p:pt16.thin:=by simp [pt16,Tm.thin,Tm.thins,Lv.thin,Lv.thins]
theorem k2q {ρ:Type} (fail:ρ) (fu:Nat) (hf:600≤fu) (K:Int→Int→ByteArray→EL→EL→ρ):p26 fail fu K ⟨#[105,100,123,48,125]⟩=K pt16.k pt16.n pt16.nm (Lv.rows pt16.ls) (Tm.rows pt16.args):=by
 obtain⟨m,rfl⟩:∃ m,fu=m + 600:=⟨fu - 600,by omega⟩
 kernel_rfl
def pt17:Tm:=.mk 2 0 ⟨#[112,46,97,108,108]⟩ [] []
theorem z7u:pt17.thin:=by simp [pt17,Tm.thin,Tm.thins,Lv.thin,Lv.thins]
theorem w7n {ρ:Type} (fail:ρ) (fu:Nat) (hf:600≤fu) (K:Int→Int→ByteArray→EL→EL→ρ):p26 fail fu K ⟨#[112,46,97,108,108]⟩=K pt17.k pt17.n pt17.nm (Lv.rows pt17.ls) (Tm.rows pt17.args):=by
 obtain⟨m,rfl⟩:∃ m,fu=m + 600:=⟨fu - 600,by omega⟩
 kernel_rfl
def pt18:Tm:=.mk 1 0 ⟨#[]⟩ [.mk 1 0 [.mk 0 0 []]] []
theorem w5o:pt18.thin:=by simp [pt18,Tm.thin,Tm.thins,Lv.thin,Lv.thins]
theorem k2p {ρ:Type} (fail:ρ) (fu:Nat) (hf:600≤fu) (K:Int→Int→ByteArray→EL→EL→ρ):p26 fail fu K ⟨#[42,83,48]⟩=K pt18.k pt18.n pt18.nm (Lv.rows pt18.ls) (Tm.rows pt18.args):=by
 obtain⟨m,rfl⟩:∃ m,fu=m + 600:=⟨fu - 600,by omega⟩
 kernel_rfl
theorem k2o {ρ:Type} (fail:ρ) (fu:Nat) (hf:600≤fu) (K:Int→Int→ByteArray→EL→EL→ρ):p59 fail fu K ⟨#[42,83,48]⟩=K pt18.k pt18.n pt18.nm (Lv.rows pt18.ls) (Tm.rows pt18.args):=by rw [p59,k2p fail fu hf]
def pt19:Tm:=.mk 2 0 ⟨#[78,97,116,46,114,101,99]⟩ [.mk 0 0 []] []
theorem w5n:pt19.thin:=by simp [pt19,Tm.thin,Tm.thins,Lv.thin,Lv.thins]
theorem k2n {ρ:Type} (fail:ρ) (fu:Nat) (hf:600≤fu) (K:Int→Int→ByteArray→EL→EL→ρ):p26 fail fu K ⟨#[78,97,116,46,114,101,99,123,48,125]⟩=K pt19.k pt19.n pt19.nm (Lv.rows pt19.ls) (Tm.rows pt19.args):=by
 obtain⟨m,rfl⟩:∃ m,fu=m + 600:=⟨fu - 600,by omega⟩
 kernel_rfl
theorem k2m {ρ:Type} (fail:ρ) (fu:Nat) (hf:600≤fu) (K:Int→Int→ByteArray→EL→EL→ρ):p59 fail fu K ⟨#[78,97,116,46,114,101,99,123,48,125]⟩=K pt19.k pt19.n pt19.nm (Lv.rows pt19.ls) (Tm.rows pt19.args):=by rw [p59,k2n fail fu hf]
def pt20:Tm:=.mk 4 0 ⟨#[]⟩ [] [.mk 1 0 ⟨#[]⟩ [.mk 4 0 []] [],.mk 4 0 ⟨#[]⟩ [] [.mk 0 0 ⟨#[]⟩ [] [],.mk 0 0 ⟨#[]⟩ [] []]]
theorem w5m:pt20.thin:=by simp [pt20,Tm.thin,Tm.thins,Lv.thin,Lv.thins]
theorem k2l {ρ:Type} (fail:ρ) (fu:Nat) (hf:600≤fu) (K:Int→Int→ByteArray→EL→EL→ρ):p26 fail fu K ⟨#[92,42,112,48,46,32,92,35,48,46,32,35,48]⟩=K pt20.k pt20.n pt20.nm (Lv.rows pt20.ls) (Tm.rows pt20.args):=by
 obtain⟨m,rfl⟩:∃ m,fu=m + 600:=⟨fu - 600,by omega⟩
 kernel_rfl
theorem k2k {ρ:Type} (fail:ρ) (fu:Nat) (hf:600≤fu) (K:Int→Int→ByteArray→EL→EL→ρ):p59 fail fu K ⟨#[92,42,112,48,46,32,92,35,48,46,32,35,48]⟩=K pt20.k pt20.n pt20.nm (Lv.rows pt20.ls) (Tm.rows pt20.args):=by rw [p59,k2l fail fu hf]
def pt21:Tm:=.mk 2 0 ⟨#[101,120,116]⟩ [.mk 0 0 [],.mk 1 0 [.mk 0 0 []]] []
theorem w5l:pt21.thin:=by simp [pt21,Tm.thin,Tm.thins,Lv.thin,Lv.thins]
theorem k2j {ρ:Type} (fail:ρ) (fu:Nat) (hf:600≤fu) (K:Int→Int→ByteArray→EL→EL→ρ):p26 fail fu K ⟨#[101,120,116,123,48,44,83,48,125]⟩=K pt21.k pt21.n pt21.nm (Lv.rows pt21.ls) (Tm.rows pt21.args):=by
 obtain⟨m,rfl⟩:∃ m,fu=m + 600:=⟨fu - 600,by omega⟩
 kernel_rfl
theorem k2i {ρ:Type} (fail:ρ) (fu:Nat) (hf:600≤fu) (K:Int→Int→ByteArray→EL→EL→ρ):p59 fail fu K ⟨#[101,120,116,123,48,44,83,48,125]⟩=K pt21.k pt21.n pt21.nm (Lv.rows pt21.ls) (Tm.rows pt21.args):=by rw [p59,k2j fail fu hf]
def pt22:Tm:=.mk 5 0 ⟨#[]⟩ [] [.mk 1 0 ⟨#[]⟩ [.mk 0 0 []] [],.mk 0 0 ⟨#[]⟩ [] []]
theorem w5k:pt22.thin:=by simp [pt22,Tm.thin,Tm.thins,Lv.thin,Lv.thins]
theorem k2h {ρ:Type} (fail:ρ) (fu:Nat) (hf:600≤fu) (K:Int→Int→ByteArray→EL→EL→ρ):p26 fail fu K ⟨#[33,42,48,46,32,35,48]⟩=K pt22.k pt22.n pt22.nm (Lv.rows pt22.ls) (Tm.rows pt22.args):=by
 obtain⟨m,rfl⟩:∃ m,fu=m + 600:=⟨fu - 600,by omega⟩
 kernel_rfl
theorem k2g {ρ:Type} (fail:ρ) (fu:Nat) (hf:600≤fu) (K:Int→Int→ByteArray→EL→EL→ρ):p59 fail fu K ⟨#[33,42,48,46,32,35,48]⟩=K pt22.k pt22.n pt22.nm (Lv.rows pt22.ls) (Tm.rows pt22.args):=by rw [p59,k2h fail fu hf]
def pt23:Tm:=.mk 2 0 ⟨#[76,105,115,116,46,114,101,99]⟩ [.mk 0 0 [],.mk 1 0 [.mk 0 0 []]] []
theorem w5j:pt23.thin:=by simp [pt23,Tm.thin,Tm.thins,Lv.thin,Lv.thins]
theorem k2f {ρ:Type} (fail:ρ) (fu:Nat) (hf:600≤fu) (K:Int→Int→ByteArray→EL→EL→ρ):p26 fail fu K ⟨#[76,105,115,116,46,114,101,99,123,48,44,83,48,125]⟩=K pt23.k pt23.n pt23.nm (Lv.rows pt23.ls) (Tm.rows pt23.args):=by
 obtain⟨m,rfl⟩:∃ m,fu=m + 600:=⟨fu - 600,by omega⟩
 kernel_rfl
theorem k2e {ρ:Type} (fail:ρ) (fu:Nat) (hf:600≤fu) (K:Int→Int→ByteArray→EL→EL→ρ):p59 fail fu K ⟨#[76,105,115,116,46,114,101,99,123,48,44,83,48,125]⟩=K pt23.k pt23.n pt23.nm (Lv.rows pt23.ls) (Tm.rows pt23.args):=by rw [p59,k2f fail fu hf]
def pt24:Tm:=.mk 2 0 ⟨#[86,101,99]⟩ [.mk 0 0 []] []
theorem w5i:pt24.thin:=by simp [pt24,Tm.thin,Tm.thins,Lv.thin,Lv.thins]
theorem k2d {ρ:Type} (fail:ρ) (fu:Nat) (hf:600≤fu) (K:Int→Int→ByteArray→EL→EL→ρ):p26 fail fu K ⟨#[86,101,99,123,48,125]⟩=K pt24.k pt24.n pt24.nm (Lv.rows pt24.ls) (Tm.rows pt24.args):=by
 obtain⟨m,rfl⟩:∃ m,fu=m + 600:=⟨fu - 600,by omega⟩
 kernel_rfl
theorem k2c {ρ:Type} (fail:ρ) (fu:Nat) (hf:600≤fu) (K:Int→Int→ByteArray→EL→EL→ρ):p59 fail fu K ⟨#[86,101,99,123,48,125]⟩=K pt24.k pt24.n pt24.nm (Lv.rows pt24.ls) (Tm.rows pt24.args):=by rw [p59,k2d fail fu hf]
def pt25:Tm:=.mk 4 0 ⟨#[]⟩ [] [.mk 5 0 ⟨#[]⟩ [] [.mk 2 0 ⟨#[78,97,116]⟩ [] [],.mk 1 0 ⟨#[]⟩ [.mk 0 0 []] []],.mk 3 0 ⟨#[]⟩ [] [.mk 0 0 ⟨#[]⟩ [] [],.mk 2 0 ⟨#[122,101,114,111]⟩ [] []]]
theorem w5h:pt25.thin:=by simp [pt25,Tm.thin,Tm.thins,Lv.thin,Lv.thins]
theorem k2b {ρ:Type} (fail:ρ) (fu:Nat) (hf:600≤fu) (K:Int→Int→ByteArray→EL→EL→ρ):p26 fail fu K ⟨#[92,33,78,97,116,46,32,42,48,46,32,40,35,48,32,122,101,114,111,41]⟩=K pt25.k pt25.n pt25.nm (Lv.rows pt25.ls) (Tm.rows pt25.args):=by
 obtain⟨m,rfl⟩:∃ m,fu=m + 600:=⟨fu - 600,by omega⟩
 kernel_rfl
theorem k2a {ρ:Type} (fail:ρ) (fu:Nat) (hf:600≤fu) (K:Int→Int→ByteArray→EL→EL→ρ):p59 fail fu K ⟨#[92,33,78,97,116,46,32,42,48,46,32,40,35,48,32,122,101,114,111,41]⟩=K pt25.k pt25.n pt25.nm (Lv.rows pt25.ls) (Tm.rows pt25.args):=by rw [p59,k2b fail fu hf]
def pt26:Tm:=.mk 3 0 ⟨#[]⟩ [] [.mk 3 0 ⟨#[]⟩ [] [.mk 3 0 ⟨#[]⟩ [] [.mk 2 0 ⟨#[86,101,99,46,114,101,99]⟩ [.mk 0 0 [],.mk 1 0 [.mk 0 0 []]] [],.mk 2 0 ⟨#[78,97,116]⟩ [] []],.mk 4 0 ⟨#[]⟩ [] [.mk 2 0 ⟨#[78,97,116]⟩ [] [],.mk 4 0 ⟨#[]⟩ [] [.mk 3 0 ⟨#[]⟩ [] [.mk 3 0 ⟨#[]⟩ [] [.mk 2 0 ⟨#[86,101,99]⟩ [.mk 0 0 []] [],.mk 2 0 ⟨#[78,97,116]⟩ [] []],.mk 0 0 ⟨#[]⟩ [] []],.mk 2 0 ⟨#[78,97,116]⟩ [] []]]],.mk 2 0 ⟨#[122,101,114,111]⟩ [] []]
theorem w5g:pt26.thin:=by simp [pt26,Tm.thin,Tm.thins,Lv.thin,Lv.thins]
theorem k1z {ρ:Type} (fail:ρ) (fu:Nat) (hf:600≤fu) (K:Int→Int→ByteArray→EL→EL→ρ):p26 fail fu K ⟨#[40,40,40,86,101,99,46,114,101,99,123,48,44,83,48,125,32,78,97,116,41,32,92,78,97,116,46,32,92,40,40,86,101,99,123,48,125,32,78,97,116,41,32,35,48,41,46,32,78,97,116,41,32,122,101,114,111,41]⟩=K pt26.k pt26.n pt26.nm (Lv.rows pt26.ls) (Tm.rows pt26.args):=by
 obtain⟨m,rfl⟩:∃ m,fu=m + 600:=⟨fu - 600,by omega⟩
 kernel_rfl
theorem k1y {ρ:Type} (fail:ρ) (fu:Nat) (hf:600≤fu) (K:Int→Int→ByteArray→EL→EL→ρ):p59 fail fu K ⟨#[40,40,40,86,101,99,46,114,101,99,123,48,44,83,48,125,32,78,97,116,41,32,92,78,97,116,46,32,92,40,40,86,101,99,123,48,125,32,78,97,116,41,32,35,48,41,46,32,78,97,116,41,32,122,101,114,111,41]⟩=K pt26.k pt26.n pt26.nm (Lv.rows pt26.ls) (Tm.rows pt26.args):=by rw [p59,k1z fail fu hf]
def p57_1 {ρ:Type} (fail:ρ) (fu:Nat) (K0:Int→EL→Int→ρ) (x0:EL) (x1 x2:Int) (j1:Bool):ρ :=
 bif j1 then (K0 0 x0 x1) else (gd ((0:Int)≤(B8 .sub .i64 (B8 .add .i64 x1 1) 1)) fail (gd ((B8 .sub .i64 (B8 .add .i64 x1 1) 1:Int) < x0.length) fail (z7q fail (List.getD x0 ((B8 .sub .i64 (B8 .add .i64 x1 1) 1:Int).toNat) []) (fun c2=>gd ((x2:Int)≠0) fail (K0 (B8 .rem .i64 (IntKind.i64.wrap c2) x2) x0 (B8 .add .i64 x1 1))))))
def p57 {ρ:Type} (fail:ρ) (fu:Nat) (K0:Int→EL→Int→ρ) (x0:EL) (x1 x2:Int):ρ :=
 bif (B0 .geq x1 ((x0.length:Nat):Int)) then (p57_1 fail fu K0 x0 x1 x2 true) else (p57_1 fail fu K0 x0 x1 x2 (B0 .lss x2 1))
def p61 {ρ:Type} (fail:ρ) (fu:Nat) (K0:KT5 ρ) (x0:ByteArray) (x1:EL):ρ :=
 p26 fail fu (fun y1 y2 y3 y4 y5=>p93 fail fu (fun y6 y7 y8 y9 a0=>K0 y6 y7 y8 y9 a0) y1 y2 y3 y4 y5 x1) x0
def p65 {ρ:Type} (fail:ρ) (fu:Nat) (K0:KT5 ρ) (x0:Int):ρ :=
 K0 0 x0 ⟨#[]⟩ nilE nilE
def p58b_b {ρ:Type} (fail:ρ) (fu:Nat) (s_p58b:(Int→Int→ByteArray→EL→EL→EL→Int→ρ)→EL→Int→Int→ρ) (s_p27:(Int→Int→ByteArray→EL→EL→EL→Int→ρ)→EL→Int→Int→ρ) (K0:KT3 ρ) (x0:EL) (x1 x2:Int):ρ :=
 p57 fail fu (fun y1 y2 y3=>bif (B0 .eql y1 0) then (p59 fail fu (fun y4 y5 y6 y7 y8=>s_p27 (fun y9 t0 v0 w0 y0 z0 a1=>p64 fail fu (fun c1 d1 e1 f1 g1=>K0 c1 d1 e1 f1 g1 z0 a1) y4 y5 y6 y7 y8 y9 t0 v0 w0 y0) y2 y3 (B8 .add .i64 x2 1)) ⟨#[78,97,116]⟩) else (bif (B0 .eql y1 1) then (p59 fail fu (fun i1 j1 l1 m1 o1=>K0 i1 j1 l1 m1 o1 y2 y3) ⟨#[115,117,99,99]⟩) else (bif (B0 .eql y1 2) then (s_p27 (fun a0 c0 d0 e0 f0 q1 r1=>gd (1≤[[(CV.v (.int .i64 a0)),(CV.v (.int .i64 c0)),(CV.v (.string d0)),(CV.sl 3 e0 none),(CV.sl 5 f0 none)]].length) fail (p61 fail fu (fun s1 t1 v1 w1 z1=>K0 s1 t1 v1 w1 z1 q1 r1) ⟨#[97,100,100]⟩ (List.take 1 [[(CV.v (.int .i64 a0)),(CV.v (.int .i64 c0)),(CV.v (.string d0)),(CV.sl 3 e0 none),(CV.sl 5 f0 none)]]))) y2 y3 x2) else (p26 fail fu (fun g0 i0 j0 l0 m0=>p59 fail fu (fun a2 c2 d2 e2 f2=>s_p27 (fun g2 i2 j2 l2 m2 o2 r2=>p64 fail fu (fun n0 o0 q0 r0 s0=>gd (2≤[[(CV.v (.int .i64 g0)),(CV.v (.int .i64 i0)),(CV.v (.string j0)),(CV.sl 3 l0 none),(CV.sl 5 m0 none)],[(CV.v (.int .i64 n0)),(CV.v (.int .i64 o0)),(CV.v (.string q0)),(CV.sl 3 r0 none),(CV.sl 5 s0 none)]].length) fail (p61 fail fu (fun s2 t2 v2 w2 z2=>K0 s2 t2 v2 w2 z2 o2 r2) ⟨#[105,100,123,83,48,125]⟩ (List.take 2 [[(CV.v (.int .i64 g0)),(CV.v (.int .i64 i0)),(CV.v (.string j0)),(CV.sl 3 l0 none),(CV.sl 5 m0 none)],[(CV.v (.int .i64 n0)),(CV.v (.int .i64 o0)),(CV.v (.string q0)),(CV.sl 3 r0 none),(CV.sl 5 s0 none)]]))) a2 c2 d2 e2 f2 g2 i2 j2 l2 m2) y2 y3 (B8 .add .i64 x2 1)) ⟨#[78,97,116]⟩) ⟨#[33,78,97,116,46,32,78,97,116]⟩)))) x0 x1 4
def p27_1 {ρ:Type} (fail:ρ) (fu:Nat) (s_p58b:(Int→Int→ByteArray→EL→EL→EL→Int→ρ)→EL→Int→Int→ρ) (s_p27:(Int→Int→ByteArray→EL→EL→EL→Int→ρ)→EL→Int→Int→ρ) (K0:KT3 ρ) (x2 y1:Int) (y2:EL) (y3:Int) (j4:Bool):ρ :=
 bif j4 then (s_p27 (fun y5 y6 y7 y8 y9 z4 a5=>gd (1≤[[(CV.v (.int .i64 y5)),(CV.v (.int .i64 y6)),(CV.v (.string y7)),(CV.sl 3 y8 none),(CV.sl 5 y9 none)]].length) fail (p61 fail fu (fun c5 d5 e5 f5 g5=>K0 c5 d5 e5 f5 g5 z4 a5) ⟨#[115,117,99,99]⟩ (List.take 1 [[(CV.v (.int .i64 y5)),(CV.v (.int .i64 y6)),(CV.v (.string y7)),(CV.sl 3 y8 none),(CV.sl 5 y9 none)]]))) y2 y3 x2) else (bif (B0 .eql y1 3) then (s_p27 (fun e3 f3 g3 i3 j3 i5 j5=>s_p27 (fun l3 n3 o3 r3 s3 l5 n5=>gd (2≤[[(CV.v (.int .i64 e3)),(CV.v (.int .i64 f3)),(CV.v (.string g3)),(CV.sl 3 i3 none),(CV.sl 5 j3 none)],[(CV.v (.int .i64 l3)),(CV.v (.int .i64 n3)),(CV.v (.string o3)),(CV.sl 3 r3 none),(CV.sl 5 s3 none)]].length) fail (p61 fail fu (fun o5 r5 s5 t5 v5=>K0 o5 r5 s5 t5 v5 l5 n5) ⟨#[97,100,100]⟩ (List.take 2 [[(CV.v (.int .i64 e3)),(CV.v (.int .i64 f3)),(CV.v (.string g3)),(CV.sl 3 i3 none),(CV.sl 5 j3 none)],[(CV.v (.int .i64 l3)),(CV.v (.int .i64 n3)),(CV.v (.string o3)),(CV.sl 3 r3 none),(CV.sl 5 s3 none)]]))) i5 j5 x2) y2 y3 x2) else (bif (B0 .eql y1 4) then (bif (B0 .gtr x2 0) then (p57 fail fu (fun w5 x5 z5=>p65 fail fu (fun a6 c6 d6 e6 f6=>K0 a6 c6 d6 e6 f6 x5 z5) w5) y2 y3 x2) else (p59 fail fu (fun g6 i6 j6 l6 n6=>K0 g6 i6 j6 l6 n6 y2 y3) ⟨#[116,119,111]⟩)) else (bif (B0 .eql y1 5) then (p59 fail fu (fun t3 v3 w3 x3 z3=>s_p27 (fun a4 c4 d4 e4 f4 o6 r6=>gd (2≤[[(CV.v (.int .i64 t3)),(CV.v (.int .i64 v3)),(CV.v (.string w3)),(CV.sl 3 x3 none),(CV.sl 5 z3 none)],[(CV.v (.int .i64 a4)),(CV.v (.int .i64 c4)),(CV.v (.string d4)),(CV.sl 3 e4 none),(CV.sl 5 f4 none)]].length) fail (p61 fail fu (fun s6 t6 v6 w6 x6=>K0 s6 t6 v6 w6 x6 o6 r6) ⟨#[105,100,123,83,48,125]⟩ (List.take 2 [[(CV.v (.int .i64 t3)),(CV.v (.int .i64 v3)),(CV.v (.string w3)),(CV.sl 3 x3 none),(CV.sl 5 z3 none)],[(CV.v (.int .i64 a4)),(CV.v (.int .i64 c4)),(CV.v (.string d4)),(CV.sl 3 e4 none),(CV.sl 5 f4 none)]]))) y2 y3 x2) ⟨#[78,97,116]⟩) else (bif (B0 .eql y1 6) then (s_p58b (fun z6 a7 c7 d7 e7 f7 g7=>s_p27 (fun i7 j7 l7 m7 n7 o7 q7=>p70 fail fu (fun r7 s7 t7 v7 w7=>K0 r7 s7 t7 v7 w7 o7 q7) z6 a7 c7 d7 e7 i7 j7 l7 m7 n7) f7 g7 x2) y2 y3 x2) else (bif (B0 .eql y1 7) then (s_p27 (fun g4 i4 l4 m4 n4 x7 z7=>p59 fail fu (fun o4 r4 s4 t4 v4=>s_p27 (fun w4 x4 y4 a0 c0 c1 d1=>gd (3≤[[(CV.v (.int .i64 o4)),(CV.v (.int .i64 r4)),(CV.v (.string s4)),(CV.sl 3 t4 none),(CV.sl 5 v4 none)],[(CV.v (.int .i64 g4)),(CV.v (.int .i64 i4)),(CV.v (.string l4)),(CV.sl 3 m4 none),(CV.sl 5 n4 none)],[(CV.v (.int .i64 w4)),(CV.v (.int .i64 x4)),(CV.v (.string y4)),(CV.sl 3 a0 none),(CV.sl 5 c0 none)]].length) fail (K0 6 0 ⟨#[]⟩ nilE (List.take 3 [[(CV.v (.int .i64 o4)),(CV.v (.int .i64 r4)),(CV.v (.string s4)),(CV.sl 3 t4 none),(CV.sl 5 v4 none)],[(CV.v (.int .i64 g4)),(CV.v (.int .i64 i4)),(CV.v (.string l4)),(CV.sl 3 m4 none),(CV.sl 5 n4 none)],[(CV.v (.int .i64 w4)),(CV.v (.int .i64 x4)),(CV.v (.string y4)),(CV.sl 3 a0 none),(CV.sl 5 c0 none)]]) c1 d1)) x7 z7 (B8 .add .i64 x2 1)) ⟨#[78,97,116]⟩) y2 y3 x2) else (bif (B0 .eql y1 8) then (s_p27 (fun d0 e0 f0 g0 i0 e1 f1=>p59 fail fu (fun g1 i1 j1 l1 m1=>p59 fail fu (fun o1 q1 r1 s1 t1=>s_p27 (fun v1 w1 x1 z1 a2 c2 d2=>p64 fail fu (fun e2 f2 g2 i2 j2=>p64 fail fu (fun j0 l0 m0 n0 o0=>p26 fail fu (fun q0 r0 s0 t0 v0=>s_p27 (fun w0 x0 y0 z0 a1 l2 m2=>gd (4≤[[(CV.v (.int .i64 q0)),(CV.v (.int .i64 r0)),(CV.v (.string s0)),(CV.sl 3 t0 none),(CV.sl 5 v0 none)],[(CV.v (.int .i64 d0)),(CV.v (.int .i64 e0)),(CV.v (.string f0)),(CV.sl 3 g0 none),(CV.sl 5 i0 none)],[(CV.v (.int .i64 j0)),(CV.v (.int .i64 l0)),(CV.v (.string m0)),(CV.sl 3 n0 none),(CV.sl 5 o0 none)],[(CV.v (.int .i64 w0)),(CV.v (.int .i64 x0)),(CV.v (.string y0)),(CV.sl 3 z0 none),(CV.sl 5 a1 none)]].length) fail (p61 fail fu (fun o2 r2 s2 t2 v2=>K0 o2 r2 s2 t2 v2 l2 m2) ⟨#[78,97,116,46,114,101,99,123,83,48,125]⟩ (List.take 4 [[(CV.v (.int .i64 q0)),(CV.v (.int .i64 r0)),(CV.v (.string s0)),(CV.sl 3 t0 none),(CV.sl 5 v0 none)],[(CV.v (.int .i64 d0)),(CV.v (.int .i64 e0)),(CV.v (.string f0)),(CV.sl 3 g0 none),(CV.sl 5 i0 none)],[(CV.v (.int .i64 j0)),(CV.v (.int .i64 l0)),(CV.v (.string m0)),(CV.sl 3 n0 none),(CV.sl 5 o0 none)],[(CV.v (.int .i64 w0)),(CV.v (.int .i64 x0)),(CV.v (.string y0)),(CV.sl 3 z0 none),(CV.sl 5 a1 none)]]))) c2 d2 x2) ⟨#[92,78,97,116,46,32,78,97,116]⟩) g1 i1 j1 l1 m1 e2 f2 g2 i2 j2) o1 q1 r1 s1 t1 v1 w1 x1 z1 a2) e1 f1 (B8 .add .i64 x2 2)) ⟨#[78,97,116]⟩) ⟨#[78,97,116]⟩) y2 y3 x2) else (p59 fail fu (fun w2 z2 a3 c3 d3=>K0 w2 z2 a3 c3 d3 y2 y3) ⟨#[122,101,114,111]⟩)))))))
def p27_b {ρ:Type} (fail:ρ) (fu:Nat) (s_p58b:(Int→Int→ByteArray→EL→EL→EL→Int→ρ)→EL→Int→Int→ρ) (s_p27:(Int→Int→ByteArray→EL→EL→EL→Int→ρ)→EL→Int→Int→ρ) (K0:KT3 ρ) (x0:EL) (x1 x2:Int):ρ :=
 p57 fail fu (fun y1 y2 y3=>bif (B0 .eql y1 1) then (p27_1 fail fu s_p58b s_p27 K0 x2 y1 y2 y3 (B0 .eql y1 1)) else (p27_1 fail fu s_p58b s_p27 K0 x2 y1 y2 y3 (B0 .eql y1 2))) x0 x1 9
mutual
def p58b {ρ:Type} (fail:ρ):Nat→(Int→Int→ByteArray→EL→EL→EL→Int→ρ)→EL→Int→Int→ρ
 | 0,_,_,_,_=>fail
 | n + 1,K0,x0,x1,x2=>p58b_b fail n (p58b fail n) (p27 fail n) K0 x0 x1 x2
def p27 {ρ:Type} (fail:ρ):Nat→(Int→Int→ByteArray→EL→EL→EL→Int→ρ)→EL→Int→Int→ρ
 | 0,_,_,_,_=>fail
 | n + 1,K0,x0,x1,x2=>p27_b fail n (p58b fail n) (p27 fail n) K0 x0 x1 x2
end
def p63 {ρ:Type} (fail:ρ) (fu:Nat) (K0:Bool→EL→Int→ρ) (x0:EL) (x1:Int):ρ :=
 K0 (B0 .geq x1 ((x0.length:Nat):Int)) x0 x1
def p23_1 {ρ:Type} (fail:ρ) (fu:Nat) (s_p23:(Int→Int→ByteArray→EL→EL→EL→Int→ρ)→EL→Int→Int→ρ) (K0:KT3 ρ) (x2:Int) (g0:EL) (i0:Int):ρ :=
 p27 fail fu (fun a0 c0 d0 e0 f0 j0 l0=>gd (1≤[[(CV.v (.int .i64 a0)),(CV.v (.int .i64 c0)),(CV.v (.string d0)),(CV.sl 3 e0 none),(CV.sl 5 f0 none)]].length) fail (p61 fail fu (fun m0 n0 o0 q0 r0=>K0 m0 n0 o0 q0 r0 j0 l0) ⟨#[80]⟩ (List.take 1 [[(CV.v (.int .i64 a0)),(CV.v (.int .i64 c0)),(CV.v (.string d0)),(CV.sl 3 e0 none),(CV.sl 5 f0 none)]]))) g0 i0 x2
def p23_b {ρ:Type} (fail:ρ) (fu:Nat) (s_p23:(Int→Int→ByteArray→EL→EL→EL→Int→ρ)→EL→Int→Int→ρ) (K0:KT3 ρ) (x0:EL) (x1 x2:Int):ρ :=
 p57 fail fu (fun y1 y2 y3=>bif (B0 .eql y1 1) then (p27 fail fu (fun y4 y5 y6 y7 y8 y9 i2=>p59 fail fu (fun n0 o0 q0 r0 s0=>p27 fail fu (fun t0 v0 w0 y0 z0 j2 l2=>gd (3≤[[(CV.v (.int .i64 n0)),(CV.v (.int .i64 o0)),(CV.v (.string q0)),(CV.sl 3 r0 none),(CV.sl 5 s0 none)],[(CV.v (.int .i64 y4)),(CV.v (.int .i64 y5)),(CV.v (.string y6)),(CV.sl 3 y7 none),(CV.sl 5 y8 none)],[(CV.v (.int .i64 t0)),(CV.v (.int .i64 v0)),(CV.v (.string w0)),(CV.sl 3 y0 none),(CV.sl 5 z0 none)]].length) fail (p61 fail fu (fun m2 o2 r2 s2 t2=>K0 m2 o2 r2 s2 t2 j2 l2) ⟨#[69,113,123,83,48,125]⟩ (List.take 3 [[(CV.v (.int .i64 n0)),(CV.v (.int .i64 o0)),(CV.v (.string q0)),(CV.sl 3 r0 none),(CV.sl 5 s0 none)],[(CV.v (.int .i64 y4)),(CV.v (.int .i64 y5)),(CV.v (.string y6)),(CV.sl 3 y7 none),(CV.sl 5 y8 none)],[(CV.v (.int .i64 t0)),(CV.v (.int .i64 v0)),(CV.v (.string w0)),(CV.sl 3 y0 none),(CV.sl 5 z0 none)]]))) y9 i2 x2) ⟨#[78,97,116]⟩) y2 y3 x2) else (bif (B0 .eql y1 2) then (s_p23 (fun a1 c1 d1 e1 f1 v2 w2=>s_p23 (fun g1 i1 j1 l1 m1 z2 a3=>gd (2≤[[(CV.v (.int .i64 a1)),(CV.v (.int .i64 c1)),(CV.v (.string d1)),(CV.sl 3 e1 none),(CV.sl 5 f1 none)],[(CV.v (.int .i64 g1)),(CV.v (.int .i64 i1)),(CV.v (.string j1)),(CV.sl 3 l1 none),(CV.sl 5 m1 none)]].length) fail (p61 fail fu (fun c3 d3 e3 f3 g3=>K0 c3 d3 e3 f3 g3 z2 a3) ⟨#[65,110,100]⟩ (List.take 2 [[(CV.v (.int .i64 a1)),(CV.v (.int .i64 c1)),(CV.v (.string d1)),(CV.sl 3 e1 none),(CV.sl 5 f1 none)],[(CV.v (.int .i64 g1)),(CV.v (.int .i64 i1)),(CV.v (.string j1)),(CV.sl 3 l1 none),(CV.sl 5 m1 none)]]))) v2 w2 x2) y2 y3 x2) else (bif (B0 .eql y1 3) then (p59 fail fu (fun i3 j3 l3 n3 o3=>s_p23 (fun r3 s3 t3 v3 w3 x3 z3=>p62 fail fu (fun a4 c4 d4 e4 f4=>K0 a4 c4 d4 e4 f4 x3 z3) i3 j3 l3 n3 o3 r3 s3 t3 v3 w3) y2 y3 (B8 .add .i64 x2 1)) ⟨#[78,97,116]⟩) else (bif (B0 .eql y1 4) then (s_p23 (fun o1 q1 r1 s1 t1 g4 i4=>gd (1≤[[(CV.v (.int .i64 o1)),(CV.v (.int .i64 q1)),(CV.v (.string r1)),(CV.sl 3 s1 none),(CV.sl 5 t1 none)]].length) fail (p61 fail fu (fun j4 l4 m4 n4 o4=>K0 j4 l4 m4 n4 o4 g4 i4) ⟨#[110,111,116]⟩ (List.take 1 [[(CV.v (.int .i64 o1)),(CV.v (.int .i64 q1)),(CV.v (.string r1)),(CV.sl 3 s1 none),(CV.sl 5 t1 none)]]))) y2 y3 x2) else (bif (B0 .eql y1 5) then (p63 fail fu (fun r4 v1 w1=>bif (!r4) then (p59 fail fu (fun z1 a2 c2 d2 e2=>s_p23 (fun f2 g2 a0 c0 d0 e0 f0=>gd (2≤[[(CV.v (.int .i64 z1)),(CV.v (.int .i64 a2)),(CV.v (.string c2)),(CV.sl 3 d2 none),(CV.sl 5 e2 none)],[(CV.v (.int .i64 f2)),(CV.v (.int .i64 g2)),(CV.v (.string a0)),(CV.sl 3 c0 none),(CV.sl 5 d0 none)]].length) fail (p61 fail fu (fun g0 i0 j0 l0 m0=>K0 g0 i0 j0 l0 m0 e0 f0) ⟨#[105,100,123,83,48,125]⟩ (List.take 2 [[(CV.v (.int .i64 z1)),(CV.v (.int .i64 a2)),(CV.v (.string c2)),(CV.sl 3 d2 none),(CV.sl 5 e2 none)],[(CV.v (.int .i64 f2)),(CV.v (.int .i64 g2)),(CV.v (.string a0)),(CV.sl 3 c0 none),(CV.sl 5 d0 none)]]))) v1 w1 x2) ⟨#[42,48]⟩) else (p23_1 fail fu s_p23 K0 x2 v1 w1)) y2 y3) else (p23_1 fail fu s_p23 K0 x2 y2 y3)))))) x0 x1 6
def p23 {ρ:Type} (fail:ρ):Nat→(Int→Int→ByteArray→EL→EL→EL→Int→ρ)→EL→Int→Int→ρ
 | 0,_,_,_,_=>fail
 | n + 1,K0,x0,x1,x2=>p23_b fail n (p23 fail n) K0 x0 x1 x2
def p24_1 {ρ:Type} (fail:ρ) (fu:Nat) (s_p24:(Int→Int→ByteArray→EL→EL→Int→Int→ByteArray→EL→EL→EL→Int→ρ)→EL→Int→Int→ρ) (K0:w6q ρ) (a0:EL) (c0 d0 e0:Int) (f0:ByteArray) (g0 i0:EL) (j0 l0:Int) (m0:ByteArray) (n0 o0:EL):ρ :=
 K0 d0 e0 f0 g0 i0 j0 l0 m0 n0 o0 a0 c0
def p24_2 {ρ:Type} (fail:ρ) (fu:Nat) (s_p24:(Int→Int→ByteArray→EL→EL→Int→Int→ByteArray→EL→EL→EL→Int→ρ)→EL→Int→Int→ρ) (K0:w6q ρ) (a0:EL) (c0 d0 e0:Int) (f0:ByteArray) (g0 i0:EL) (j0 l0:Int) (m0:ByteArray) (n0 o0:EL):ρ :=
 K0 d0 e0 f0 g0 i0 j0 l0 m0 n0 o0 a0 c0
def p24_3 {ρ:Type} (fail:ρ) (fu:Nat) (s_p24:(Int→Int→ByteArray→EL→EL→Int→Int→ByteArray→EL→EL→EL→Int→ρ)→EL→Int→Int→ρ) (K0:w6q ρ) (x2:Int) (g0:EL) (i0:Int):ρ :=
 p27 fail fu (fun a0 c0 d0 e0 f0 j0 l0=>gd (1≤[[(CV.v (.int .i64 a0)),(CV.v (.int .i64 c0)),(CV.v (.string d0)),(CV.sl 3 e0 none),(CV.sl 5 f0 none)]].length) fail (p61 fail fu (fun m0 n0 o0 q0 r0=>gd (1≤[[(CV.v (.int .i64 a0)),(CV.v (.int .i64 c0)),(CV.v (.string d0)),(CV.sl 3 e0 none),(CV.sl 5 f0 none)]].length) fail (p61 fail fu (fun s0 t0 v0 w0 x0=>p24_2 fail fu s_p24 K0 j0 l0 m0 n0 o0 q0 r0 s0 t0 v0 w0 x0) ⟨#[80]⟩ (List.take 1 [[(CV.v (.int .i64 a0)),(CV.v (.int .i64 c0)),(CV.v (.string d0)),(CV.sl 3 e0 none),(CV.sl 5 f0 none)]]))) ⟨#[112,46,97,108,108]⟩ (List.take 1 [[(CV.v (.int .i64 a0)),(CV.v (.int .i64 c0)),(CV.v (.string d0)),(CV.sl 3 e0 none),(CV.sl 5 f0 none)]]))) g0 i0 x2
def p24_b {ρ:Type} (fail:ρ) (fu:Nat) (s_p24:(Int→Int→ByteArray→EL→EL→Int→Int→ByteArray→EL→EL→EL→Int→ρ)→EL→Int→Int→ρ) (K0:w6q ρ) (x0:EL) (x1 x2:Int):ρ :=
 p57 fail fu (fun y1 y2 y3=>bif (B0 .eql y1 1) then (p27 fail fu (fun y4 y5 y6 y7 y8 y9 o4=>p59 fail fu (fun n3 o3 r3 s3 t3=>gd (2≤[[(CV.v (.int .i64 n3)),(CV.v (.int .i64 o3)),(CV.v (.string r3)),(CV.sl 3 s3 none),(CV.sl 5 t3 none)],[(CV.v (.int .i64 y4)),(CV.v (.int .i64 y5)),(CV.v (.string y6)),(CV.sl 3 y7 none),(CV.sl 5 y8 none)]].length) fail (p61 fail fu (fun r4 s4 t4 v4 w4=>p59 fail fu (fun v3 w3 x3 z3 a4=>gd (3≤[[(CV.v (.int .i64 v3)),(CV.v (.int .i64 w3)),(CV.v (.string x3)),(CV.sl 3 z3 none),(CV.sl 5 a4 none)],[(CV.v (.int .i64 y4)),(CV.v (.int .i64 y5)),(CV.v (.string y6)),(CV.sl 3 y7 none),(CV.sl 5 y8 none)],[(CV.v (.int .i64 y4)),(CV.v (.int .i64 y5)),(CV.v (.string y6)),(CV.sl 3 y7 none),(CV.sl 5 y8 none)]].length) fail (p61 fail fu (fun x4 z4 a5 c5 d5=>K0 r4 s4 t4 v4 w4 x4 z4 a5 c5 d5 y9 o4) ⟨#[69,113,123,83,48,125]⟩ (List.take 3 [[(CV.v (.int .i64 v3)),(CV.v (.int .i64 w3)),(CV.v (.string x3)),(CV.sl 3 z3 none),(CV.sl 5 a4 none)],[(CV.v (.int .i64 y4)),(CV.v (.int .i64 y5)),(CV.v (.string y6)),(CV.sl 3 y7 none),(CV.sl 5 y8 none)],[(CV.v (.int .i64 y4)),(CV.v (.int .i64 y5)),(CV.v (.string y6)),(CV.sl 3 y7 none),(CV.sl 5 y8 none)]]))) ⟨#[78,97,116]⟩) ⟨#[69,113,46,114,101,102,108,123,83,48,125]⟩ (List.take 2 [[(CV.v (.int .i64 n3)),(CV.v (.int .i64 o3)),(CV.v (.string r3)),(CV.sl 3 s3 none),(CV.sl 5 t3 none)],[(CV.v (.int .i64 y4)),(CV.v (.int .i64 y5)),(CV.v (.string y6)),(CV.sl 3 y7 none),(CV.sl 5 y8 none)]]))) ⟨#[78,97,116]⟩) y2 y3 x2) else (bif (B0 .eql y1 2) then (s_p24 (fun c4 d4 e4 f4 g4 w0 y0 z0 a1 c1 e5 f5=>s_p24 (fun i4 j4 l4 m4 n4 d1 e1 f1 g1 i1 g5 i5=>gd (4≤[[(CV.v (.int .i64 w0)),(CV.v (.int .i64 y0)),(CV.v (.string z0)),(CV.sl 3 a1 none),(CV.sl 5 c1 none)],[(CV.v (.int .i64 d1)),(CV.v (.int .i64 e1)),(CV.v (.string f1)),(CV.sl 3 g1 none),(CV.sl 5 i1 none)],[(CV.v (.int .i64 c4)),(CV.v (.int .i64 d4)),(CV.v (.string e4)),(CV.sl 3 f4 none),(CV.sl 5 g4 none)],[(CV.v (.int .i64 i4)),(CV.v (.int .i64 j4)),(CV.v (.string l4)),(CV.sl 3 m4 none),(CV.sl 5 n4 none)]].length) fail (p61 fail fu (fun j5 l5 n5 o5 r5=>gd (2≤[[(CV.v (.int .i64 w0)),(CV.v (.int .i64 y0)),(CV.v (.string z0)),(CV.sl 3 a1 none),(CV.sl 5 c1 none)],[(CV.v (.int .i64 d1)),(CV.v (.int .i64 e1)),(CV.v (.string f1)),(CV.sl 3 g1 none),(CV.sl 5 i1 none)]].length) fail (p61 fail fu (fun s5 t5 v5 w5 x5=>p24_1 fail fu s_p24 K0 g5 i5 j5 l5 n5 o5 r5 s5 t5 v5 w5 x5) ⟨#[65,110,100]⟩ (List.take 2 [[(CV.v (.int .i64 w0)),(CV.v (.int .i64 y0)),(CV.v (.string z0)),(CV.sl 3 a1 none),(CV.sl 5 c1 none)],[(CV.v (.int .i64 d1)),(CV.v (.int .i64 e1)),(CV.v (.string f1)),(CV.sl 3 g1 none),(CV.sl 5 i1 none)]]))) ⟨#[65,110,100,46,109,107]⟩ (List.take 4 [[(CV.v (.int .i64 w0)),(CV.v (.int .i64 y0)),(CV.v (.string z0)),(CV.sl 3 a1 none),(CV.sl 5 c1 none)],[(CV.v (.int .i64 d1)),(CV.v (.int .i64 e1)),(CV.v (.string f1)),(CV.sl 3 g1 none),(CV.sl 5 i1 none)],[(CV.v (.int .i64 c4)),(CV.v (.int .i64 d4)),(CV.v (.string e4)),(CV.sl 3 f4 none),(CV.sl 5 g4 none)],[(CV.v (.int .i64 i4)),(CV.v (.int .i64 j4)),(CV.v (.string l4)),(CV.sl 3 m4 none),(CV.sl 5 n4 none)]]))) e5 f5 x2) y2 y3 x2) else (bif (B0 .eql y1 3) then (s_p24 (fun z5 a6 c6 d6 e6 f6 g6 i6 j6 l6 n6 o6=>p59 fail fu (fun r6 s6 t6 v6 w6=>p64 fail fu (fun x6 z6 a7 c7 d7=>p59 fail fu (fun e7 f7 g7 j1 l1=>p62 fail fu (fun m1 o1 q1 r1 s1=>K0 x6 z6 a7 c7 d7 m1 o1 q1 r1 s1 n6 o6) e7 f7 g7 j1 l1 f6 g6 i6 j6 l6) ⟨#[78,97,116]⟩) r6 s6 t6 v6 w6 z5 a6 c6 d6 e6) ⟨#[78,97,116]⟩) y2 y3 (B8 .add .i64 x2 1)) else (bif (B0 .eql y1 4) then (p23 fail fu (fun a0 c0 d0 e0 f0 t1 v1=>p65 fail fu (fun w1 z1 a2 c2 d2=>p64 fail fu (fun e2 f2 g2 i2 j2=>p66 fail fu (fun l2 m2 o2 r2 s2=>p62 fail fu (fun t2 v2 w2 z2 a3=>K0 e2 f2 g2 i2 j2 t2 v2 w2 z2 a3 t1 v1) a0 c0 d0 e0 f0 l2 m2 o2 r2 s2) a0 c0 d0 e0 f0 1 0) a0 c0 d0 e0 f0 w1 z1 a2 c2 d2) 0) y2 y3 x2) else (bif (B0 .eql y1 5) then (p63 fail fu (fun c3 n0 o0=>bif (!c3) then (s_p24 (fun q0 r0 s0 t0 v0 g0 i0 j0 l0 m0 d3 e3=>gd (2≤[[(CV.v (.int .i64 g0)),(CV.v (.int .i64 i0)),(CV.v (.string j0)),(CV.sl 3 l0 none),(CV.sl 5 m0 none)],[(CV.v (.int .i64 q0)),(CV.v (.int .i64 r0)),(CV.v (.string s0)),(CV.sl 3 t0 none),(CV.sl 5 v0 none)]].length) fail (p61 fail fu (fun f3 g3 i3 j3 l3=>K0 f3 g3 i3 j3 l3 g0 i0 j0 l0 m0 d3 e3) ⟨#[105,100,123,48,125]⟩ (List.take 2 [[(CV.v (.int .i64 g0)),(CV.v (.int .i64 i0)),(CV.v (.string j0)),(CV.sl 3 l0 none),(CV.sl 5 m0 none)],[(CV.v (.int .i64 q0)),(CV.v (.int .i64 r0)),(CV.v (.string s0)),(CV.sl 3 t0 none),(CV.sl 5 v0 none)]]))) n0 o0 x2) else (p24_3 fail fu s_p24 K0 x2 n0 o0)) y2 y3) else (p24_3 fail fu s_p24 K0 x2 y2 y3)))))) x0 x1 6
def p24 {ρ:Type} (fail:ρ):Nat→(Int→Int→ByteArray→EL→EL→Int→Int→ByteArray→EL→EL→EL→Int→ρ)→EL→Int→Int→ρ
 | 0,_,_,_,_=>fail
 | n + 1,K0,x0,x1,x2=>p24_b fail n (p24 fail n) K0 x0 x1 x2
def p119 {ρ:Type} (fail:ρ) (fu:Nat) (K0:Int→Int→EL→ρ) (x0 x1:Int) (x2:EL):ρ :=
 p118 fail fu (fun y1 y2 y3=>gd (1≤[[(CV.v (.int .i64 y1)),(CV.v (.int .i64 y2)),(CV.sl 3 y3 none)]].length) fail (K0 1 0 (List.take 1 [[(CV.v (.int .i64 y1)),(CV.v (.int .i64 y2)),(CV.sl 3 y3 none)]]))) x0 x1 x2
def p120 {ρ:Type} (fail:ρ) (fu:Nat) (K0:Int→Int→EL→ρ) (x0 x1:Int) (x2:EL) (x3 x4:Int) (x5:EL):ρ :=
 p118 fail fu (fun y1 y2 y3=>p118 fail fu (fun y4 y5 y6=>gd (2≤[[(CV.v (.int .i64 y1)),(CV.v (.int .i64 y2)),(CV.sl 3 y3 none)],[(CV.v (.int .i64 y4)),(CV.v (.int .i64 y5)),(CV.sl 3 y6 none)]].length) fail (K0 2 0 (List.take 2 [[(CV.v (.int .i64 y1)),(CV.v (.int .i64 y2)),(CV.sl 3 y3 none)],[(CV.v (.int .i64 y4)),(CV.v (.int .i64 y5)),(CV.sl 3 y6 none)]]))) x3 x4 x5) x0 x1 x2
def p121 {ρ:Type} (fail:ρ) (fu:Nat) (K0:Int→Int→EL→ρ) (x0 x1:Int) (x2:EL) (x3 x4:Int) (x5:EL):ρ :=
 p118 fail fu (fun y1 y2 y3=>p118 fail fu (fun y4 y5 y6=>gd (2≤[[(CV.v (.int .i64 y1)),(CV.v (.int .i64 y2)),(CV.sl 3 y3 none)],[(CV.v (.int .i64 y4)),(CV.v (.int .i64 y5)),(CV.sl 3 y6 none)]].length) fail (K0 3 0 (List.take 2 [[(CV.v (.int .i64 y1)),(CV.v (.int .i64 y2)),(CV.sl 3 y3 none)],[(CV.v (.int .i64 y4)),(CV.v (.int .i64 y5)),(CV.sl 3 y6 none)]]))) x3 x4 x5) x0 x1 x2
def p122 {ρ:Type} (fail:ρ) (fu:Nat) (K0:Int→Int→EL→ρ) (x0:Int):ρ :=
 K0 4 x0 nilE
def p123 {ρ:Type} (fail:ρ) (fu:Nat) (K0:Int→Int→EL→ρ):ρ :=
 K0 0 0 nilE
def p91_1 {ρ:Type} (fail:ρ) (fu:Nat) (s_p91:(Int→Int→EL→EL→Int→ρ)→EL→Int→Int→ρ) (K0:KT1 ρ) (y2:EL) (y3:Int):ρ :=
 p123 fail fu (fun a0 c0 d0=>K0 a0 c0 d0 y2 y3) 
def p91_2 {ρ:Type} (fail:ρ) (fu:Nat) (s_p91:(Int→Int→EL→EL→Int→ρ)→EL→Int→Int→ρ) (K0:KT1 ρ) (x2:Int) (y2:EL) (y3:Int) (a0:Bool):ρ :=
 bif a0 then (bif (B0 .gtr x2 0) then (p57 fail fu (fun c0 d0 e0=>p122 fail fu (fun f0 g0 i0=>K0 f0 g0 i0 d0 e0) c0) y2 y3 x2) else (p91_1 fail fu s_p91 K0 y2 y3 )) else (p91_1 fail fu s_p91 K0 y2 y3 )
def p91_b {ρ:Type} (fail:ρ) (fu:Nat) (s_p91:(Int→Int→EL→EL→Int→ρ)→EL→Int→Int→ρ) (K0:KT1 ρ) (x0:EL) (x1 x2:Int):ρ :=
 p57 fail fu (fun y1 y2 y3=>bif (B0 .eql y1 1) then (s_p91 (fun y4 y5 y6 y7 y8=>p119 fail fu (fun y9 a0 c0=>K0 y9 a0 c0 y7 y8) y4 y5 y6) y2 y3 x2) else (bif (B0 .eql y1 2) then (s_p91 (fun d0 e0 f0 g0 i0=>s_p91 (fun j0 l0 m0 n0 o0=>p120 fail fu (fun q0 r0 s0=>K0 q0 r0 s0 n0 o0) d0 e0 f0 j0 l0 m0) g0 i0 x2) y2 y3 x2) else (bif (B0 .eql y1 3) then (s_p91 (fun t0 v0 w0 y0 z0=>s_p91 (fun a1 c1 d1 e1 f1=>p121 fail fu (fun g1 i1 j1=>K0 g1 i1 j1 e1 f1) t0 v0 w0 a1 c1 d1) y0 z0 x2) y2 y3 x2) else (bif (B0 .eql y1 4) then (p91_2 fail fu s_p91 K0 x2 y2 y3 (B0 .eql y1 4)) else (p91_2 fail fu s_p91 K0 x2 y2 y3 (B0 .eql y1 5)))))) x0 x1 6
def p91 {ρ:Type} (fail:ρ):Nat→(Int→Int→EL→EL→Int→ρ)→EL→Int→Int→ρ
 | 0,_,_,_,_=>fail
 | n + 1,K0,x0,x1,x2=>p91_b fail n (p91 fail n) K0 x0 x1 x2
end Go.Proofs.YtioiigabeoaneaaGreat
