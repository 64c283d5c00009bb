/- A part of the proof. Conditions: none. -/
import Derived.Test.YthncmjlcmlmnmaaCX4
import Derived.Test.YthncmjlcmlmnmaaCX7
import Derived.Test.YthncmjlcmlmnmaaCX5
import Derived.KernelRfl
import Derived.Test.YthncmjlcmlmnmaaCX6
namespace Go.Proofs.Ythncmjlcmlmnmaa
open Go V
set_option maxRecDepth 100000
set_option maxHeartbeats 4000000
def p61_1 {ρ:Type} (fail:ρ) (fu:Nat) (s_p61:(Bool→ρ)→Int→Int→ByteArray→EL→EL→ρ) (K0:Bool→ρ) (rec2:Int→ρ) (x4:EL) (z6:Int):ρ :=
 bif (z0a .lss z6 ((x4.length:Nat):Int)) then (gd ((0:Int)≤z6) fail (gd ((z6:Int) < (x4.length:Nat)) fail (z0i fail (List.getD x4 ((z6:Int).toNat) []) (fun c7 c8 c9 c10 c11=>s_p61 (fun y12=>bif (!y12) then (K0 false) else (rec2 (z0d .add .i64 z6 1))) c7 c8 c9 c10 c11)))) else (K0 true)
def p61_1L {ρ:Type} (fail:ρ) (fu:Nat) (s_p61:(Bool→ρ)→Int→Int→ByteArray→EL→EL→ρ) (K0:Bool→ρ) (x4:EL):Nat→Int→ρ
 | 0,_=>fail
 | n + 1,z6=>p61_1 fail fu s_p61 K0 (p61_1L fail fu s_p61 K0 x4 n) x4 z6
def p61_2 {ρ:Type} (fail:ρ) (fu:Nat) (s_p61:(Bool→ρ)→Int→Int→ByteArray→EL→EL→ρ) (K0:Bool→ρ) (rec1:Int→ρ) (x3 x4:EL) (z1:Int):ρ :=
 bif (z0a .lss z1 ((x3.length:Nat):Int)) then (gd ((0:Int)≤z1) fail (gd ((z1:Int) < (x3.length:Nat)) fail (z0n fail (List.getD x3 ((z1:Int).toNat) []) (fun c2 c3 c4=>p69 fail fu (fun y5=>bif (!y5) then (K0 false) else (rec1 (z0d .add .i64 z1 1))) c2 c3 c4 4)))) else (p61_1L fail fu s_p61 K0 x4 fu 0)
def p61_2L {ρ:Type} (fail:ρ) (fu:Nat) (s_p61:(Bool→ρ)→Int→Int→ByteArray→EL→EL→ρ) (K0:Bool→ρ) (x3 x4:EL):Nat→Int→ρ
 | 0,_=>fail
 | n + 1,z1=>p61_2 fail fu s_p61 K0 (p61_2L fail fu s_p61 K0 x3 x4 n) x3 x4 z1
def p61_b {ρ:Type} (fail:ρ) (fu:Nat) (s_p61:(Bool→ρ)→Int→Int→ByteArray→EL→EL→ρ) (K0:Bool→ρ) (x0 x1:Int) (x2:ByteArray) (x3 x4:EL):ρ :=
 bif (z0a .gtr ((x3.length:Nat):Int) 4) then (K0 false) else (p61_2L fail fu s_p61 K0 x3 x4 fu 0)
def p61 {ρ:Type} (fail:ρ):Nat→(Bool→ρ)→Int→Int→ByteArray→EL→EL→ρ
 | 0,_,_,_,_,_,_=>fail
 | n + 1,K0,x0,x1,x2,x3,x4=>p61_b fail n (p61 fail n) K0 x0 x1 x2 x3 x4
def p62_1 {ρ:Type} (fail:ρ) (fu:Nat) (s_p62:(Bool→ρ)→Int→Int→ByteArray→EL→EL→ρ) (K0:Bool→ρ) (rec1:Int→ρ) (x4:EL) (z1:Int):ρ :=
 bif (z0a .lss z1 ((x4.length:Nat):Int)) then (gd ((0:Int)≤z1) fail (gd ((z1:Int) < (x4.length:Nat)) fail (z0i fail (List.getD x4 ((z1:Int).toNat) []) (fun c2 c3 c4 c5 c6=>s_p62 (fun y7=>bif (!y7) then (K0 false) else (rec1 (z0d .add .i64 z1 1))) c2 c3 c4 c5 c6)))) else (K0 true)
def p62_1L {ρ:Type} (fail:ρ) (fu:Nat) (s_p62:(Bool→ρ)→Int→Int→ByteArray→EL→EL→ρ) (K0:Bool→ρ) (x4:EL):Nat→Int→ρ
 | 0,_=>fail
 | n + 1,z1=>p62_1 fail fu s_p62 K0 (p62_1L fail fu s_p62 K0 x4 n) x4 z1
def p62_b {ρ:Type} (fail:ρ) (fu:Nat) (s_p62:(Bool→ρ)→Int→Int→ByteArray→EL→EL→ρ) (K0:Bool→ρ) (x0 x1:Int) (x2:ByteArray) (x3 x4:EL):ρ :=
 bif (z0a .gtr ((x2.size:Nat):Int) 24) then (K0 false) else (p62_1L fail fu s_p62 K0 x4 fu 0)
def p62 {ρ:Type} (fail:ρ):Nat→(Bool→ρ)→Int→Int→ByteArray→EL→EL→ρ
 | 0,_,_,_,_,_,_=>fail
 | n + 1,K0,x0,x1,x2,x3,x4=>p62_b fail n (p62 fail n) K0 x0 x1 x2 x3 x4
def p16_1 {ρ:Type} (fail:ρ) (fu:Nat) (K0:Bool→ρ) (j3:Bool):ρ :=
 K0 j3
def p16 {ρ:Type} (fail:ρ) (fu:Nat) (K0:Bool→ρ) (x0 x1:Int) (x2:ByteArray) (x3 x4:EL):ρ :=
 p59 fail fu (fun y1 y2=>bif y2 then (p60 fail fu (fun y4=>bif (z0a .leq y4 100) then (p61 fail fu (fun y5=>bif y5 then (p62 fail fu (fun y6=>p16_1 fail fu K0 y6) x0 x1 x2 x3 x4) else (p16_1 fail fu K0 false)) x0 x1 x2 x3 x4) else (p16_1 fail fu K0 false)) x0 x1 x2 x3 x4 100) else (p16_1 fail fu K0 false)) x0 x1 x2 x3 x4 2000
theorem d_p108 (fu:Nat){K0:Bool→Prop}(L:EL→Nat)(hN:L=List.length){x0 x1:Int}{x2:ByteArray}{x3 x4:EL}(h:p108 False fu K0 x0 x1 x2 x3 x4):Den Try.prog G0 108 [.agg [.c (.v (.int .i64 x0)),.c (.v (.int .i64 x1)),.c (.v (.string x2)),.c (.sl 3 x3 none),.c (.sl 5 x4 none)]] (fun r bs=>(∃ (y0:Bool) (o0:OV),(r=.c (.v (.bool y0))∧bs=[o0])∧K0 y0)):=by
 obtain⟨O,hO⟩:∃ O,O=std 0 T G0 (Den Try.prog G0):=⟨_,rfl⟩
 have hLO:L=O.len:=by rw [hN,hO];rfl
 subst hLO
 refine den_h hO tiA mixed tabOk (fn:=Try.f108) (sh:=true) (by kernel_rfl) rfl rfl rfl rfl ?_
 intro Q b
 unfold p108 at h
 conv=>cbv
 refine z0v hO tiA [[],[]] [(0,true,false),(1,true,false),(3,true,false),(4,true,false),(5,true,false),(2,false,false),(6,true,false),(7,true,false),(8,true,false),(9,true,false),(10,true,false),(11,true,false),(12,true,false),(13,true,false),(14,true,false),(15,true,false),(16,true,false),(17,true,false),(18,true,false),(19,true,false),(20,true,false),(21,true,false),(22,true,false),(23,true,false),(24,true,false),(25,true,false),(26,true,false),(27,true,false),(28,true,false),(29,true,false),(30,true,false),(31,true,false),(32,true,false),(33,true,false),(34,true,false),(35,true,false),(36,true,false)] (by kernel_rfl) [1,39] [2000] [] (fun tm m=>∃ (j1:Bool),((tm=frame 0 65 [(1,.p 2000 0 0),(39,.c (.v (.bool j1)))]∧m=⟨[(2000,.blk 0 [.c (.v (.int .i64 x0)),.c (.v (.int .i64 x1)),.c (.v (.string x2)),.c (.sl 3 x3 none),.c (.sl 5 x4 none)])],1⟩))∧p108_2 False fu K0 x0 x3 j1) (fun L hL_2=>?_) ?_
 conv=>cbv
 refine z0c hO [.shut] (d_p136 fu O.len hN h) ?_
 intro e Q a b
 conv=>cbv
 refine⟨by subst a hO;rfl,?_⟩
 intro r bs d
 rw [b] at d
 clear a b h
 obtain⟨y3,_,⟨rfl,rfl⟩,h⟩:=d
 conv=>cbv
 refine agr hO rfl rfl ?_
 refine br_h hO h (by subst hO;rfl) (fun k5 h=>?_) (fun k5 h=>?_)
 conv=>cbv
 refine br_t hO k5 ?_
 conv=>cbv
 refine br_t hO k5 ?_
 conv=>cbv
 refine br_t hO k5 ?_
 conv=>cbv
 refine br_t hO k5 ?_
 conv=>cbv
 refine br_t hO k5 ?_
 conv=>cbv
 refine br_t hO rfl ?_
 conv=>cbv
 refine br_t hO rfl ?_
 conv=>cbv
 refine br_t hO rfl ?_
 conv=>cbv
 refine br_t hO rfl ?_
 conv=>cbv
 refine br_t hO rfl ?_
 conv=>cbv
 refine br_t hO rfl ?_
 conv=>cbv
 refine br_t hO rfl ?_
 conv=>cbv
 refine br_t hO rfl ?_
 conv=>cbv
 refine br_t hO rfl ?_
 conv=>cbv
 refine br_t hO rfl ?_
 conv=>cbv
 refine br_t hO rfl ?_
 conv=>cbv
 refine br_t hO rfl ?_
 conv=>cbv
 refine br_t hO rfl ?_
 conv=>cbv
 refine br_t hO rfl ?_
 conv=>cbv
 exact hL_2 _ _ ⟨true,⟨(by (conv=>lhs;cbv)<;>(subst hO;rfl)),(by (conv=>lhs;cbv)<;>(subst hO;rfl))⟩,h⟩
 conv=>cbv
 refine br_f hO k5 ?_
 conv=>cbv
 refine br_f hO k5 ?_
 conv=>cbv
 refine br_f hO k5 ?_
 conv=>cbv
 refine br_h hO h (by subst hO;rfl) (fun k6 h=>?_) (fun k6 h=>?_)
 conv=>cbv
 refine br_t hO k6 ?_
 conv=>cbv
 refine br_t hO k6 ?_
 conv=>cbv
 refine br_f hO k5 ?_
 conv=>cbv
 refine br_t hO k6 ?_
 conv=>cbv
 refine br_f hO k5 ?_
 conv=>cbv
 refine br_h hO h (by subst hO;rfl) (fun k7 h=>?_) (fun k7 h=>?_)
 conv=>cbv
 refine br_t hO k7 ?_
 conv=>cbv
 refine br_t hO k7 ?_
 conv=>cbv
 refine br_t hO k7 ?_
 conv=>cbv
 refine br_t hO rfl ?_
 conv=>cbv
 refine br_t hO rfl ?_
 conv=>cbv
 refine br_t hO rfl ?_
 conv=>cbv
 refine br_t hO rfl ?_
 conv=>cbv
 refine br_t hO rfl ?_
 conv=>cbv
 refine br_t hO rfl ?_
 conv=>cbv
 refine br_t hO rfl ?_
 conv=>cbv
 refine br_t hO rfl ?_
 conv=>cbv
 refine br_t hO rfl ?_
 conv=>cbv
 refine br_t hO rfl ?_
 conv=>cbv
 exact hL_2 _ _ ⟨true,⟨(by (conv=>lhs;cbv)<;>(subst hO;rfl)),(by (conv=>lhs;cbv)<;>(subst hO;rfl))⟩,h⟩
 conv=>cbv
 refine br_f hO k7 ?_
 conv=>cbv
 refine br_f hO k7 ?_
 conv=>cbv
 refine br_f hO k7 ?_
 conv=>cbv
 refine br_h hO h (by subst hO;rfl) (fun k8 h=>?_) (fun k8 h=>?_)
 conv=>cbv
 refine br_t hO k8 ?_
 conv=>cbv
 refine br_t hO k8 ?_
 conv=>cbv
 refine br_t hO k8 ?_
 conv=>cbv
 refine br_t hO rfl ?_
 conv=>cbv
 refine br_t hO rfl ?_
 conv=>cbv
 refine br_t hO rfl ?_
 conv=>cbv
 refine br_t hO rfl ?_
 conv=>cbv
 refine br_t hO rfl ?_
 conv=>cbv
 refine br_t hO rfl ?_
 conv=>cbv
 exact hL_2 _ _ ⟨true,⟨(by (conv=>lhs;cbv)<;>(subst hO;rfl)),(by (conv=>lhs;cbv)<;>(subst hO;rfl))⟩,h⟩
 conv=>cbv
 refine br_f hO k8 ?_
 conv=>cbv
 refine br_f hO k8 ?_
 conv=>cbv
 refine br_f hO k8 ?_
 conv=>cbv
 refine br_h hO h (by subst hO;rfl) (fun k9 h=>?_) (fun k9 h=>?_)
 conv=>cbv
 refine br_t hO k9 ?_
 conv=>cbv
 refine br_t hO k9 ?_
 conv=>cbv
 refine br_t hO k9 ?_
 conv=>cbv
 refine br_t hO k9 ?_
 conv=>cbv
 refine br_t hO k9 ?_
 conv=>cbv
 exact hL_2 _ _ ⟨true,⟨(by (conv=>lhs;cbv)<;>(subst hO;rfl)),(by (conv=>lhs;cbv)<;>(subst hO;rfl))⟩,h⟩
 conv=>cbv
 refine br_f hO k9 ?_
 conv=>cbv
 refine br_f hO k9 ?_
 conv=>cbv
 refine br_f hO k9 ?_
 conv=>cbv
 refine br_h hO h (by subst hO;rfl) (fun k10 h=>?_) (fun k10 h=>?_)
 conv=>cbv
 refine br_t hO k10 ?_
 conv=>cbv
 refine br_t hO k10 ?_
 conv=>cbv
 refine br_f hO k9 ?_
 conv=>cbv
 refine br_t hO k10 ?_
 conv=>cbv
 refine br_f hO k9 ?_
 conv=>cbv
 exact hL_2 _ _ ⟨(z2a .neq x2 ⟨#[]⟩),⟨(by (conv=>lhs;cbv)<;>(subst hO;rfl)),(by (conv=>lhs;cbv)<;>(subst hO;rfl))⟩,h⟩
 conv=>cbv
 refine br_f hO k10 ?_
 conv=>cbv
 refine br_f hO k10 ?_
 conv=>cbv
 refine br_f hO k9 ?_
 conv=>cbv
 refine br_f hO k10 ?_
 conv=>cbv
 refine br_f hO k9 ?_
 conv=>cbv
 exact hL_2 _ _ ⟨false,⟨(by (conv=>lhs;cbv)<;>(subst hO;rfl)),(by (conv=>lhs;cbv)<;>(subst hO;rfl))⟩,h⟩
 conv=>cbv
 refine br_f hO k6 ?_
 conv=>cbv
 refine br_f hO k6 ?_
 conv=>cbv
 refine br_f hO k5 ?_
 conv=>cbv
 refine br_f hO k6 ?_
 conv=>cbv
 refine br_f hO k5 ?_
 conv=>cbv
 refine br_f hO rfl ?_
 conv=>cbv
 refine br_f hO rfl ?_
 conv=>cbv
 refine br_f hO rfl ?_
 conv=>cbv
 refine br_f hO rfl ?_
 conv=>cbv
 refine br_h hO h (by subst hO;rfl) (fun k11 h=>?_) (fun k11 h=>?_)
 conv=>cbv
 refine br_t hO k11 ?_
 conv=>cbv
 refine br_t hO k11 ?_
 conv=>cbv
 refine br_t hO k11 ?_
 conv=>cbv
 refine br_t hO rfl ?_
 conv=>cbv
 refine br_t hO rfl ?_
 conv=>cbv
 refine br_t hO rfl ?_
 conv=>cbv
 refine br_t hO rfl ?_
 conv=>cbv
 refine br_t hO rfl ?_
 conv=>cbv
 refine br_t hO rfl ?_
 conv=>cbv
 exact hL_2 _ _ ⟨true,⟨(by (conv=>lhs;cbv)<;>(subst hO;rfl)),(by (conv=>lhs;cbv)<;>(subst hO;rfl))⟩,h⟩
 conv=>cbv
 refine br_f hO k11 ?_
 conv=>cbv
 refine br_f hO k11 ?_
 conv=>cbv
 refine br_f hO k11 ?_
 conv=>cbv
 refine br_h hO h (by subst hO;rfl) (fun k12 h=>?_) (fun k12 h=>?_)
 conv=>cbv
 refine br_t hO k12 ?_
 conv=>cbv
 refine br_t hO k12 ?_
 conv=>cbv
 refine br_t hO k12 ?_
 conv=>cbv
 refine br_t hO k12 ?_
 conv=>cbv
 refine br_t hO k12 ?_
 conv=>cbv
 exact hL_2 _ _ ⟨true,⟨(by (conv=>lhs;cbv)<;>(subst hO;rfl)),(by (conv=>lhs;cbv)<;>(subst hO;rfl))⟩,h⟩
 conv=>cbv
 refine br_f hO k12 ?_
 conv=>cbv
 refine br_f hO k12 ?_
 conv=>cbv
 refine br_f hO k12 ?_
 conv=>cbv
 refine br_h hO h (by subst hO;rfl) (fun k13 h=>?_) (fun k13 h=>?_)
 conv=>cbv
 refine br_t hO k13 ?_
 conv=>cbv
 refine br_t hO k13 ?_
 conv=>cbv
 refine br_f hO k12 ?_
 conv=>cbv
 refine br_t hO k13 ?_
 conv=>cbv
 refine br_f hO k12 ?_
 conv=>cbv
 exact hL_2 _ _ ⟨(z2a .neq x2 ⟨#[]⟩),⟨(by (conv=>lhs;cbv)<;>(subst hO;rfl)),(by (conv=>lhs;cbv)<;>(subst hO;rfl))⟩,h⟩
 conv=>cbv
 refine br_f hO k13 ?_
 conv=>cbv
 refine br_f hO k13 ?_
 conv=>cbv
 refine br_f hO k12 ?_
 conv=>cbv
 refine br_f hO k13 ?_
 conv=>cbv
 refine br_f hO k12 ?_
 conv=>cbv
 exact hL_2 _ _ ⟨false,⟨(by (conv=>lhs;cbv)<;>(subst hO;rfl)),(by (conv=>lhs;cbv)<;>(subst hO;rfl))⟩,h⟩
 rintro tm m ⟨j1,hs,h⟩
 unfold p108_2 at h
 obtain⟨rfl,rfl⟩:=hs
 conv=>cbv
 refine br_h hO h (by subst hO;rfl) (fun k1 h=>?_) (fun k1 h=>?_)
 conv=>cbv
 rw [b]
 exact⟨false,_,⟨(by subst hO;rfl),(by subst hO;rfl)⟩,h⟩
 conv=>cbv
 refine z0b hO ?_
 conv=>cbv
 refine z0u hO tiA [2] [] [] (fun tm m=>∃ (j2:Bool),((tm=frame 0 65 [(2,.c (.v (.bool j2)))]∧m=⟨[],1⟩))∧p108_1 False fu K0 j2) (fun L hL_1=>?_) ?_
 conv=>cbv
 refine br_h hO h (by subst hO;rfl) (fun k2 h=>?_) (fun k2 h=>?_)
 conv=>cbv
 refine br_t hO k2 ?_
 conv=>cbv
 refine br_t hO k2 ?_
 conv=>cbv
 refine br_t hO k2 ?_
 conv=>cbv
 refine br_t hO k2 ?_
 conv=>cbv
 refine br_t hO k2 ?_
 conv=>cbv
 refine br_t hO rfl ?_
 conv=>cbv
 refine br_t hO rfl ?_
 conv=>cbv
 refine br_t hO rfl ?_
 conv=>cbv
 refine br_t hO rfl ?_
 conv=>cbv
 refine br_t hO rfl ?_
 conv=>cbv
 refine br_t hO rfl ?_
 conv=>cbv
 exact hL_1 _ _ ⟨true,⟨(by (conv=>lhs;cbv)<;>(subst hO;rfl)),(by (conv=>lhs;cbv)<;>(subst hO;rfl))⟩,h⟩
 conv=>cbv
 refine br_f hO k2 ?_
 conv=>cbv
 refine br_f hO k2 ?_
 conv=>cbv
 refine br_f hO k2 ?_
 conv=>cbv
 refine br_h hO h (by subst hO;rfl) (fun k3 h=>?_) (fun k3 h=>?_)
 conv=>cbv
 refine br_t hO k3 ?_
 conv=>cbv
 refine br_t hO k3 ?_
 conv=>cbv
 refine br_t hO k3 ?_
 conv=>cbv
 refine br_f hO k2 ?_
 conv=>cbv
 refine br_t hO k3 ?_
 conv=>cbv
 refine br_f hO k2 ?_
 conv=>cbv
 refine br_h hO h (by subst hO;rfl) (fun k4 h=>?_) (fun k4 h=>?_)
 conv=>cbv
 refine br_t hO k4 ?_
 conv=>cbv
 refine br_t hO k4 ?_
 conv=>cbv
 refine br_t hO k4 ?_
 conv=>cbv
 refine br_t hO k4 ?_
 conv=>cbv
 refine br_t hO k4 ?_
 conv=>cbv
 exact hL_1 _ _ ⟨true,⟨(by (conv=>lhs;cbv)<;>(subst hO;rfl)),(by (conv=>lhs;cbv)<;>(subst hO;rfl))⟩,h⟩
 conv=>cbv
 refine br_f hO k4 ?_
 conv=>cbv
 refine br_f hO k4 ?_
 conv=>cbv
 refine br_f hO k4 ?_
 conv=>cbv
 refine br_f hO (z2d hO .eql .neq rfl rfl rfl k3) ?_
 conv=>cbv
 refine br_f hO (z2d hO .eql .neq rfl rfl rfl k3) ?_
 conv=>cbv
 refine br_f hO (z2d hO .eql .neq rfl rfl rfl k3) ?_
 conv=>cbv
 refine br_f hO (z2d hO .eql .neq rfl rfl rfl k3) ?_
 conv=>cbv
 refine br_f hO k4 ?_
 conv=>cbv
 refine br_f hO (z2d hO .eql .neq rfl rfl rfl k3) ?_
 conv=>cbv
 refine br_f hO k4 ?_
 conv=>cbv
 exact hL_1 _ _ ⟨false,⟨(by (conv=>lhs;cbv)<;>(subst hO;rfl)),(by (conv=>lhs;cbv)<;>(subst hO;rfl))⟩,h⟩
 conv=>cbv
 refine br_f hO k3 ?_
 conv=>cbv
 refine br_f hO k3 ?_
 conv=>cbv
 refine br_f hO k3 ?_
 conv=>cbv
 refine br_f hO k2 ?_
 conv=>cbv
 refine br_f hO k3 ?_
 conv=>cbv
 refine br_f hO k2 ?_
 conv=>cbv
 refine br_f hO rfl ?_
 conv=>cbv
 refine br_f hO rfl ?_
 conv=>cbv
 refine br_f hO rfl ?_
 conv=>cbv
 refine br_f hO rfl ?_
 conv=>cbv
 refine br_t hO (z2d hO .eql .neq rfl rfl rfl k3) ?_
 conv=>cbv
 refine br_t hO (z2d hO .eql .neq rfl rfl rfl k3) ?_
 conv=>cbv
 refine br_t hO (z2d hO .eql .neq rfl rfl rfl k3) ?_
 conv=>cbv
 refine br_t hO (z2d hO .eql .neq rfl rfl rfl k3) ?_
 conv=>cbv
 refine br_f hO rfl ?_
 conv=>cbv
 refine br_t hO (z2d hO .eql .neq rfl rfl rfl k3) ?_
 conv=>cbv
 refine br_f hO rfl ?_
 conv=>cbv
 exact hL_1 _ _ ⟨(z0a .eql ((x3.length:Nat):Int) 0),⟨(by (conv=>lhs;cbv)<;>(subst hO;rfl)),(by (conv=>lhs;cbv)<;>(subst hO;rfl))⟩,h⟩
 rintro tm m ⟨j2,hs,h⟩
 unfold p108_1 at h
 obtain⟨rfl,rfl⟩:=hs
 conv=>cbv
 rw [b]
 exact⟨j2,_,⟨(by subst hO;rfl),(by subst hO;rfl)⟩,h⟩
def D_p59 (fu:Nat):Prop:=∀ {K0:Int→Bool→Prop} (L:EL→Nat) (_:L=List.length) {x0 x1:Int} {x2:ByteArray} {x3 x4:EL} {x5:Int} (_:p59 False fu K0 x0 x1 x2 x3 x4 x5),Den Try.prog G0 59 [.agg [.c (.v (.int .i64 x0)),.c (.v (.int .i64 x1)),.c (.v (.string x2)),.c (.sl 3 x3 none),.c (.sl 5 x4 none)],.c (.v (.int .i64 x5))] (fun r bs=>(∃ (y0:Int) (y1:Bool) (o0 o1:OV),(r=.tup [.c (.v (.int .i64 y0)),.c (.v (.bool y1))]∧bs=[o0,o1])∧K0 y0 y1))
theorem b_p59 (fu:Nat)(ih_p59:D_p59 fu){K0:Int→Bool→Prop}(L:EL→Nat)(hN:L=List.length){x0 x1:Int}{x2:ByteArray}{x3 x4:EL}{x5:Int}(h:p59_b False fu (p59 False fu) K0 x0 x1 x2 x3 x4 x5):Den Try.prog G0 59 [.agg [.c (.v (.int .i64 x0)),.c (.v (.int .i64 x1)),.c (.v (.string x2)),.c (.sl 3 x3 none),.c (.sl 5 x4 none)],.c (.v (.int .i64 x5))] (fun r bs=>(∃ (y0:Int) (y1:Bool) (o0 o1:OV),(r=.tup [.c (.v (.int .i64 y0)),.c (.v (.bool y1))]∧bs=[o0,o1])∧K0 y0 y1)):=by
 obtain⟨O,hO⟩:∃ O,O=std 0 T G0 (Den Try.prog G0):=⟨_,rfl⟩
 have hLO:L=O.len:=by rw [hN,hO];rfl
 subst hLO
 refine den_h hO tiA mixed tabOk (fn:=Try.f59) (sh:=true) (by kernel_rfl) rfl rfl rfl rfl ?_
 intro Q b
 unfold p59_b at h
 conv=>cbv
 refine z0u hO tiA [1,2,17] [3000] [] (fun tm m=>∃ (j1:Int) (j2:Bool),((tm=frame 0 39 [(1,.c (.v (.int .i64 j1))),(2,.p 3000 0 0),(17,.c (.v (.bool j2)))]∧m=⟨[(3000,.blk 0 [.c (.v (.int .i64 x0)),.c (.v (.int .i64 x1)),.c (.v (.string x2)),.c (.sl 3 x3 none),.c (.sl 5 x4 none)])],1⟩))∧p59_2 False fu (p59 False fu) K0 x4 j1 j2) (fun L hL_2=>?_) ?_
 conv=>cbv
 refine br_h hO h (by subst hO;rfl) (fun k4 h=>?_) (fun k4 h=>?_)
 conv=>cbv
 refine br_t hO k4 ?_
 conv=>cbv
 refine br_t hO k4 ?_
 conv=>cbv
 refine br_t hO k4 ?_
 conv=>cbv
 exact hL_2 _ _ ⟨z0d .sub .i64 x5 1,true,⟨(by (conv=>lhs;cbv)<;>(subst hO;rfl)),(by (conv=>lhs;cbv)<;>(subst hO;rfl))⟩,h⟩
 conv=>cbv
 refine br_f hO k4 ?_
 conv=>cbv
 refine z0c hO [.shut] (d_p108 fu O.len hN h) ?_
 intro e Q a b
 conv=>cbv
 refine⟨by subst a hO;rfl,?_⟩
 intro r bs d
 rw [b] at d
 clear a b h
 obtain⟨y12,_,⟨rfl,rfl⟩,h⟩:=d
 conv=>cbv
 refine br_f hO k4 ?_
 conv=>cbv
 refine br_f hO k4 ?_
 conv=>cbv
 exact hL_2 _ _ ⟨z0d .sub .i64 x5 1,(!y12),⟨(by (conv=>lhs;cbv)<;>(subst hO;rfl)),(by (conv=>lhs;cbv)<;>(subst hO;rfl))⟩,h⟩
 rintro tm m ⟨j1,j2,hs,h⟩
 unfold p59_2 at h
 obtain⟨rfl,rfl⟩:=hs
 conv=>cbv
 refine br_h hO h (by subst hO;rfl) (fun k1 h=>?_) (fun k1 h=>?_)
 conv=>cbv
 rw [b]
 exact⟨(-1),false,_,_,⟨(by subst hO;rfl),(by subst hO;rfl)⟩,h⟩
 conv=>cbv
 refine z0b hO ?_
 conv=>cbv
 refine z0r hO tiA [1,2,6] [3000] [] (fun (n:Nat) tm m=>∃ (z3:Int) (z4:Int),((tm=frame 0 39 [(1,.c (.v (.int .i64 z3))),(2,.p 3000 0 0),(6,.c (.v (.int .i64 z4)))]∧m=⟨[(3000,.blk 0 [.c (.v (.int .i64 x0)),.c (.v (.int .i64 x1)),.c (.v (.string x2)),.c (.sl 3 x3 none),.c (.sl 5 x4 none)])],1⟩))∧p59_1L False fu (p59 False fu) K0 x4 n z3 z4) (fun n=>n) fu ⟨j1,0,⟨(by (conv=>lhs;cbv)<;>(subst hO;rfl)),(by (conv=>lhs;cbv)<;>(subst hO;rfl))⟩,h⟩ ?_
 rintro n1 tm m L ⟨z3,z4,hs,h⟩ hLn1
 (cases n1 with
 | zero=>rw [p59_1L] at h;exact h.elim
 | succ n1 =>
 rw [p59_1L] at h
 unfold p59_1 at h
 obtain⟨rfl,rfl⟩:=hs
 conv=>cbv
 refine br_h hO h (by subst hO;rfl) (fun k2 h=>?_) (fun k2 h=>?_)
 conv=>cbv
 refine z0b hO ?_
 conv=>cbv
 refine and_h h (fun g=>(by subst hO;exact g)) (fun h=>?_)
 refine and_h h (fun g=>(by subst hO;exact g)) (fun h=>?_)
 obtain⟨c5,c6,c7,c8,c9,hr,h⟩:=z0e h
 refine z0m hO _ (by subst hO;exact hr) ?_
 clear hr
 conv=>cbv
 refine z0c hO [.shut,.shut] (ih_p59 O.len hN h) ?_
 intro e Q a b
 conv=>cbv
 refine⟨by subst a hO;rfl,?_⟩
 intro r bs d
 rw [b] at d
 clear a b h
 obtain⟨y10,y11,_,_,⟨rfl,rfl⟩,h⟩:=d
 conv=>cbv
 refine br_h hO h (by subst hO;rfl) (fun k3 h=>?_) (fun k3 h=>?_)
 conv=>cbv
 rw [b]
 exact⟨(-1),false,_,_,⟨(by subst hO;rfl),(by subst hO;rfl)⟩,h⟩
 conv=>cbv
 refine z0b hO ?_
 conv=>cbv
 exact hLn1 n1 _ _ (Nat.lt_succ_self n1) ⟨y10,z0d .add .i64 z4 1,⟨(by (conv=>lhs;cbv)<;>(subst hO;rfl)),(by (conv=>lhs;cbv)<;>(subst hO;rfl))⟩,h⟩
 conv=>cbv
 rw [b]
 exact⟨z3,true,_,_,⟨(by subst hO;rfl),(by subst hO;rfl)⟩,h⟩)
theorem dd_p59 (fu:Nat):D_p59 fu:=by
 induction fu with
 | zero=>unfold D_p59;intros;rename_i h;rw [p59] at h;exact h.elim
 | succ n ih =>
  exact (by unfold D_p59;intro K0 L hN x0 x1 x2 x3 x4 x5 h;exact b_p59 n ih L hN (by rw [p59] at h;exact h))
theorem d_p59 (fu:Nat):D_p59 fu:=dd_p59 fu
def D_p60 (fu:Nat):Prop:=∀ {K0:Int→Prop} (L:EL→Nat) (_:L=List.length) {x0 x1:Int} {x2:ByteArray} {x3 x4:EL} {x5:Int} (_:p60 False fu K0 x0 x1 x2 x3 x4 x5),Den Try.prog G0 60 [.agg [.c (.v (.int .i64 x0)),.c (.v (.int .i64 x1)),.c (.v (.string x2)),.c (.sl 3 x3 none),.c (.sl 5 x4 none)],.c (.v (.int .i64 x5))] (fun r bs=>(∃ (y0:Int) (o0 o1:OV),(r=.c (.v (.int .i64 y0))∧bs=[o0,o1])∧K0 y0))
theorem b_p60 (fu:Nat)(ih_p60:D_p60 fu){K0:Int→Prop}(L:EL→Nat)(hN:L=List.length){x0 x1:Int}{x2:ByteArray}{x3 x4:EL}{x5:Int}(h:p60_b False fu (p60 False fu) K0 x0 x1 x2 x3 x4 x5):Den Try.prog G0 60 [.agg [.c (.v (.int .i64 x0)),.c (.v (.int .i64 x1)),.c (.v (.string x2)),.c (.sl 3 x3 none),.c (.sl 5 x4 none)],.c (.v (.int .i64 x5))] (fun r bs=>(∃ (y0:Int) (o0 o1:OV),(r=.c (.v (.int .i64 y0))∧bs=[o0,o1])∧K0 y0)):=by
 obtain⟨O,hO⟩:∃ O,O=std 0 T G0 (Den Try.prog G0):=⟨_,rfl⟩
 have hLO:L=O.len:=by rw [hN,hO];rfl
 subst hLO
 refine den_h hO tiA mixed tabOk (fn:=Try.f60) (sh:=true) (by kernel_rfl) rfl rfl rfl rfl ?_
 intro Q b
 unfold p60_b at h
 conv=>cbv
 refine br_h hO h (by subst hO;rfl) (fun k1 h=>?_) (fun k1 h=>?_)
 conv=>cbv
 rw [b]
 exact⟨1,_,_,⟨(by subst hO;rfl),(by subst hO;rfl)⟩,h⟩
 conv=>cbv
 refine z0b hO ?_
 conv=>cbv
 refine z0r hO tiA [1,2,5,6] [3000] [] (fun (n:Nat) tm m=>∃ (z1:Int) (z2:Int) (z3:Int),((tm=frame 0 30 [(1,.c (.v (.int .i64 z1))),(2,.p 3000 0 0),(5,.c (.v (.int .i64 z2))),(6,.c (.v (.int .i64 z3)))]∧m=⟨[(3000,.blk 0 [.c (.v (.int .i64 x0)),.c (.v (.int .i64 x1)),.c (.v (.string x2)),.c (.sl 3 x3 none),.c (.sl 5 x4 none)])],1⟩))∧p60_1L False fu (p60 False fu) K0 x4 n z1 z2 z3) (fun n=>n) fu ⟨(if 0 > x5 then 0 else x5),0,0,⟨(by (conv=>lhs;cbv)<;>(subst hO;rfl)),(by (conv=>lhs;cbv)<;>(subst hO;rfl))⟩,h⟩ ?_
 rintro n1 tm m L ⟨z1,z2,z3,hs,h⟩ hLn1
 (cases n1 with
 | zero=>rw [p60_1L] at h;exact h.elim
 | succ n1 =>
 rw [p60_1L] at h
 unfold p60_1 at h
 obtain⟨rfl,rfl⟩:=hs
 conv=>cbv
 refine br_h hO h (by subst hO;rfl) (fun k2 h=>?_) (fun k2 h=>?_)
 conv=>cbv
 refine z0b hO ?_
 conv=>cbv
 refine and_h h (fun g=>(by subst hO;exact g)) (fun h=>?_)
 refine and_h h (fun g=>(by subst hO;exact g)) (fun h=>?_)
 obtain⟨c4,c5,c6,c7,c8,hr,h⟩:=z0e h
 refine z0m hO _ (by subst hO;exact hr) ?_
 clear hr
 conv=>cbv
 refine z0c hO [.shut,.shut] (ih_p60 O.len hN h) ?_
 intro e Q a b
 conv=>cbv
 refine⟨by subst a hO;rfl,?_⟩
 intro r bs d
 rw [b] at d
 clear a b h
 obtain⟨y9,_,_,⟨rfl,rfl⟩,h⟩:=d
 conv=>cbv
 exact hLn1 n1 _ _ (Nat.lt_succ_self n1) ⟨z1,(if y9 > z2 then y9 else z2),z0d .add .i64 z3 1,⟨(by (conv=>lhs;cbv)<;>(subst hO;rfl)),(by (conv=>lhs;cbv)<;>(subst hO;rfl))⟩,h⟩
 conv=>cbv
 rw [b]
 exact⟨z0d .add .i64 z2 1,_,_,⟨(by subst hO;rfl),(by subst hO;rfl)⟩,h⟩)
theorem dd_p60 (fu:Nat):D_p60 fu:=by
 induction fu with
 | zero=>unfold D_p60;intros;rename_i h;rw [p60] at h;exact h.elim
 | succ n ih =>
  exact (by unfold D_p60;intro K0 L hN x0 x1 x2 x3 x4 x5 h;exact b_p60 n ih L hN (by rw [p60] at h;exact h))
theorem d_p60 (fu:Nat):D_p60 fu:=dd_p60 fu
def D_p111 (fu:Nat):Prop:=∀ {K0:Int→Prop} (L:EL→Nat) (_:L=List.length) {x0 x1:Int} {x2:EL} {x3:Int} (_:p111 False fu K0 x0 x1 x2 x3),Den Try.prog G0 111 [.agg [.c (.v (.int .i64 x0)),.c (.v (.int .i64 x1)),.c (.sl 3 x2 none)],.c (.v (.int .i64 x3))] (fun r bs=>(∃ (y0:Int) (o0 o1:OV),(r=.c (.v (.int .i64 y0))∧bs=[o0,o1])∧K0 y0))
theorem b_p111 (fu:Nat)(ih_p111:D_p111 fu){K0:Int→Prop}(L:EL→Nat)(hN:L=List.length){x0 x1:Int}{x2:EL}{x3:Int}(h:p111_b False fu (p111 False fu) K0 x0 x1 x2 x3):Den Try.prog G0 111 [.agg [.c (.v (.int .i64 x0)),.c (.v (.int .i64 x1)),.c (.sl 3 x2 none)],.c (.v (.int .i64 x3))] (fun r bs=>(∃ (y0:Int) (o0 o1:OV),(r=.c (.v (.int .i64 y0))∧bs=[o0,o1])∧K0 y0)):=by
 obtain⟨O,hO⟩:∃ O,O=std 0 T G0 (Den Try.prog G0):=⟨_,rfl⟩
 have hLO:L=O.len:=by rw [hN,hO];rfl
 subst hLO
 refine den_h hO tiA mixed tabOk (fn:=Try.f111) (sh:=true) (by kernel_rfl) rfl rfl rfl rfl ?_
 intro Q b
 unfold p111_b at h
 conv=>cbv
 refine z0r hO tiA [1,2,5,6] [3000] [] (fun (n:Nat) tm m=>∃ (z1:Int) (z2:Int),((tm=frame 0 34 [(1,.c (.v (.int .i64 x3))),(2,.p 3000 0 0),(5,.c (.v (.int .i64 z1))),(6,.c (.v (.int .i64 z2)))]∧m=⟨[(3000,.blk 0 [.c (.v (.int .i64 x0)),.c (.v (.int .i64 x1)),.c (.sl 3 x2 none)])],1⟩))∧p111_2L False fu (p111 False fu) K0 x2 x3 n z1 z2) (fun n=>n) fu ⟨1,0,⟨(by (conv=>lhs;cbv)<;>(subst hO;rfl)),(by (conv=>lhs;cbv)<;>(subst hO;rfl))⟩,h⟩ ?_
 rintro n1 tm m L ⟨z1,z2,hs,h⟩ hLn1
 (cases n1 with
 | zero=>rw [p111_2L] at h;exact h.elim
 | succ n1 =>
 rw [p111_2L] at h
 unfold p111_2 at h
 obtain⟨rfl,rfl⟩:=hs
 conv=>cbv
 refine z0u hO tiA [1,2,5,6,16] [3000] [] (fun tm m=>∃ (j3:Bool),((tm=frame 0 34 [(1,.c (.v (.int .i64 x3))),(2,.p 3000 0 0),(5,.c (.v (.int .i64 z1))),(6,.c (.v (.int .i64 z2))),(16,.c (.v (.bool j3)))]∧m=⟨[(3000,.blk 0 [.c (.v (.int .i64 x0)),.c (.v (.int .i64 x1)),.c (.sl 3 x2 none)])],1⟩))∧p111_1 False fu (p111 False fu) K0 (p111_2L False fu (p111 False fu) K0 x2 x3 n1) x2 x3 z1 z2 j3) (fun L hL_1=>?_) ?_
 conv=>cbv
 refine br_h hO h (by subst hO;rfl) (fun k2 h=>?_) (fun k2 h=>?_)
 conv=>cbv
 refine br_t hO k2 ?_
 conv=>cbv
 refine br_t hO k2 ?_
 conv=>cbv
 refine br_t hO k2 ?_
 conv=>cbv
 exact hL_1 _ _ ⟨(z0a .leq z1 x3),⟨(by (conv=>lhs;cbv)<;>(subst hO;rfl)),(by (conv=>lhs;cbv)<;>(subst hO;rfl))⟩,h⟩
 conv=>cbv
 refine br_f hO k2 ?_
 conv=>cbv
 refine br_f hO k2 ?_
 conv=>cbv
 refine br_f hO k2 ?_
 conv=>cbv
 exact hL_1 _ _ ⟨false,⟨(by (conv=>lhs;cbv)<;>(subst hO;rfl)),(by (conv=>lhs;cbv)<;>(subst hO;rfl))⟩,h⟩
 rintro tm m ⟨j3,hs,h⟩
 unfold p111_1 at h
 obtain⟨rfl,rfl⟩:=hs
 conv=>cbv
 refine br_h hO h (by subst hO;rfl) (fun k1 h=>?_) (fun k1 h=>?_)
 conv=>cbv
 refine z0b hO ?_
 conv=>cbv
 refine and_h h (fun g=>(by subst hO;exact g)) (fun h=>?_)
 refine and_h h (fun g=>(by subst hO;exact g)) (fun h=>?_)
 obtain⟨c4,c5,c6,hr,h⟩:=z0j h
 refine z0m hO _ (by subst hO;exact hr) ?_
 clear hr
 conv=>cbv
 refine z0c hO [.shut,.shut] (ih_p111 O.len hN h) ?_
 intro e Q a b
 conv=>cbv
 refine⟨by subst a hO;rfl,?_⟩
 intro r bs d
 rw [b] at d
 clear a b h
 obtain⟨y7,_,_,⟨rfl,rfl⟩,h⟩:=d
 conv=>cbv
 exact hLn1 n1 _ _ (Nat.lt_succ_self n1) ⟨z0d .add .i64 z1 y7,z0d .add .i64 z2 1,⟨(by (conv=>lhs;cbv)<;>(subst hO;rfl)),(by (conv=>lhs;cbv)<;>(subst hO;rfl))⟩,h⟩
 conv=>cbv
 rw [b]
 exact⟨(if z0d .add .i64 x3 1 < z1 then z0d .add .i64 x3 1 else z1),_,_,⟨(by subst hO;rfl),(by subst hO;rfl)⟩,h⟩)
theorem dd_p111 (fu:Nat):D_p111 fu:=by
 induction fu with
 | zero=>unfold D_p111;intros;rename_i h;rw [p111] at h;exact h.elim
 | succ n ih =>
  exact (by unfold D_p111;intro K0 L hN x0 x1 x2 x3 h;exact b_p111 n ih L hN (by rw [p111] at h;exact h))
theorem d_p111 (fu:Nat):D_p111 fu:=dd_p111 fu
theorem d_p138 (fu:Nat){K0:Int→Prop}(L:EL→Nat)(hN:L=List.length){x0:Int}(h:p138 False fu K0 x0):Den Try.prog G0 138 [.c (.v (.int .i64 x0))] (fun r bs=>(∃ (y0:Int) (o0:OV),(r=.c (.v (.int .i64 y0))∧bs=[o0])∧K0 y0)):=by
 obtain⟨O,hO⟩:∃ O,O=std 0 T G0 (Den Try.prog G0):=⟨_,rfl⟩
 have hLO:L=O.len:=by rw [hN,hO];rfl
 subst hLO
 refine den_h hO tiA mixed tabOk (fn:=Try.f138) (sh:=true) (by kernel_rfl) rfl rfl rfl rfl ?_
 intro Q b
 unfold p138 at h
 conv=>cbv
 refine z0f hO tiA h (by subst hO;rfl) [3,4] [] [] (fun tm m=>∃ (j1:Bool),((tm=frame 0 12 [(3,.c (.v (.int .i64 x0))),(4,.c (.v (.bool j1)))]∧m=⟨[],1⟩))∧p138_2 False fu K0 x0 j1) (fun k5 h L hL_2=>?_) (fun k5 h L hL_2=>?_) ?_
 conv=>cbv
 exact hL_2 _ _ ⟨(z0a .eql x0 0),⟨(by (conv=>lhs;cbv)<;>(subst hO;rfl)),(by (conv=>lhs;cbv)<;>(subst hO;rfl))⟩,h⟩
 conv=>cbv
 exact hL_2 _ _ ⟨(z0a .eql x0 4),⟨(by (conv=>lhs;cbv)<;>(subst hO;rfl)),(by (conv=>lhs;cbv)<;>(subst hO;rfl))⟩,h⟩
 rintro tm m ⟨j1,hs,h⟩
 unfold p138_2 at h
 obtain⟨rfl,rfl⟩:=hs
 conv=>cbv
 refine br_h hO h (by subst hO;rfl) (fun k1 h=>?_) (fun k1 h=>?_)
 conv=>cbv
 rw [b]
 exact⟨0,_,⟨(by subst hO;rfl),(by subst hO;rfl)⟩,h⟩
 conv=>cbv
 refine br_h hO h (by subst hO;rfl) (fun k2 h=>?_) (fun k2 h=>?_)
 conv=>cbv
 rw [b]
 exact⟨1,_,⟨(by subst hO;rfl),(by subst hO;rfl)⟩,h⟩
 conv=>cbv
 refine z0f hO tiA h (by subst hO;rfl) [9] [] [] (fun tm m=>∃ (j2:Bool),((tm=frame 0 12 [(9,.c (.v (.bool j2)))]∧m=⟨[],1⟩))∧p138_1 False fu K0 j2) (fun k4 h L hL_1=>?_) (fun k4 h L hL_1=>?_) ?_
 conv=>cbv
 exact hL_1 _ _ ⟨(z0a .eql x0 2),⟨(by (conv=>lhs;cbv)<;>(subst hO;rfl)),(by (conv=>lhs;cbv)<;>(subst hO;rfl))⟩,h⟩
 conv=>cbv
 exact hL_1 _ _ ⟨(z0a .eql x0 3),⟨(by (conv=>lhs;cbv)<;>(subst hO;rfl)),(by (conv=>lhs;cbv)<;>(subst hO;rfl))⟩,h⟩
 rintro tm m ⟨j2,hs,h⟩
 unfold p138_1 at h
 obtain⟨rfl,rfl⟩:=hs
 conv=>cbv
 refine br_h hO h (by subst hO;rfl) (fun k3 h=>?_) (fun k3 h=>?_)
 conv=>cbv
 rw [b]
 exact⟨2,_,⟨(by subst hO;rfl),(by subst hO;rfl)⟩,h⟩
 conv=>cbv
 refine z0b hO ?_
 conv=>cbv
 refine z0b hO ?_
 conv=>cbv
 refine z0b hO ?_
 conv=>cbv
 rw [b]
 exact⟨(-1),_,⟨(by subst hO;rfl),(by subst hO;rfl)⟩,h⟩
def D_p112 (fu:Nat):Prop:=∀ {K0:Bool→Prop} (L:EL→Nat) (_:L=List.length) {x0 x1:Int} {x2:EL} {x3 x4:Int} (_:p112 False fu K0 x0 x1 x2 x3 x4),Den Try.prog G0 112 [.agg [.c (.v (.int .i64 x0)),.c (.v (.int .i64 x1)),.c (.sl 3 x2 none)],.c (.v (.int .i64 x3)),.c (.v (.int .i64 x4))] (fun r bs=>(∃ (y0:Bool) (o0 o1 o2:OV),(r=.c (.v (.bool y0))∧bs=[o0,o1,o2])∧K0 y0))
theorem b_p112 (fu:Nat)(ih_p112:D_p112 fu){K0:Bool→Prop}(L:EL→Nat)(hN:L=List.length){x0 x1:Int}{x2:EL}{x3 x4:Int}(h:p112_b False fu (p112 False fu) K0 x0 x1 x2 x3 x4):Den Try.prog G0 112 [.agg [.c (.v (.int .i64 x0)),.c (.v (.int .i64 x1)),.c (.sl 3 x2 none)],.c (.v (.int .i64 x3)),.c (.v (.int .i64 x4))] (fun r bs=>(∃ (y0:Bool) (o0 o1 o2:OV),(r=.c (.v (.bool y0))∧bs=[o0,o1,o2])∧K0 y0)):=by
 obtain⟨O,hO⟩:∃ O,O=std 0 T G0 (Den Try.prog G0):=⟨_,rfl⟩
 have hLO:L=O.len:=by rw [hN,hO];rfl
 subst hLO
 refine den_h hO tiA mixed tabOk (fn:=Try.f112) (sh:=true) (by kernel_rfl) rfl rfl rfl rfl ?_
 intro Q b
 unfold p112_b at h
 conv=>cbv
 refine z0v hO tiA [[],[]] [(0,true,false),(1,true,false),(2,true,false),(3,true,false),(4,true,false),(6,true,false),(7,true,false),(8,true,false),(5,false,false),(9,true,true),(10,true,true)] (by kernel_rfl) [1,2,3,18] [4000] [] (fun tm m=>∃ (j1:Bool),((tm=frame 0 60 [(1,.c (.v (.int .i64 x3))),(2,.c (.v (.int .i64 x4))),(3,.p 4000 0 0),(18,.c (.v (.bool j1)))]∧m=⟨[(4000,.blk 0 [.c (.v (.int .i64 x0)),.c (.v (.int .i64 x1)),.c (.sl 3 x2 none)])],1⟩))∧p112_3 False fu (p112 False fu) K0 x0 x1 x2 x3 x4 j1) (fun L hL_3=>?_) ?_
 conv=>cbv
 refine br_h hO h (by subst hO;rfl) (fun k8 h=>?_) (fun k8 h=>?_)
 conv=>cbv
 refine br_t hO k8 ?_
 conv=>cbv
 refine br_t hO k8 ?_
 conv=>cbv
 refine br_t hO k8 ?_
 conv=>cbv
 refine br_t hO k8 ?_
 conv=>cbv
 refine br_t hO k8 ?_
 conv=>cbv
 refine br_t hO k8 ?_
 conv=>cbv
 refine br_t hO k8 ?_
 conv=>cbv
 exact hL_3 _ _ ⟨true,⟨(by (conv=>lhs;cbv)<;>(subst hO;rfl)),(by (conv=>lhs;cbv)<;>(subst hO;rfl))⟩,h⟩
 conv=>cbv
 refine br_f hO k8 ?_
 conv=>cbv
 refine br_f hO k8 ?_
 conv=>cbv
 refine br_f hO k8 ?_
 conv=>cbv
 refine br_f hO k8 ?_
 conv=>cbv
 refine br_f hO k8 ?_
 conv=>cbv
 refine z0c hO [.shut] (d_p138 fu O.len hN h) ?_
 intro e Q a b
 conv=>cbv
 refine⟨by subst a hO;rfl,?_⟩
 intro r bs d
 rw [b] at d
 clear a b h
 obtain⟨y8,_,⟨rfl,rfl⟩,h⟩:=d
 conv=>cbv
 refine agr hO rfl rfl ?_
 refine br_f hO k8 ?_
 conv=>cbv
 refine br_f hO k8 ?_
 conv=>cbv
 exact hL_3 _ _ ⟨(z0a .neq y8 ((x2.length:Nat):Int)),⟨(by (conv=>lhs;cbv)<;>(subst hO;rfl)),(by (conv=>lhs;cbv)<;>(subst hO;rfl))⟩,h⟩
 rintro tm m ⟨j1,hs,h⟩
 unfold p112_3 at h
 obtain⟨rfl,rfl⟩:=hs
 conv=>cbv
 refine br_h hO h (by subst hO;rfl) (fun k1 h=>?_) (fun k1 h=>?_)
 conv=>cbv
 rw [b]
 exact⟨false,_,_,_,⟨(by subst hO;rfl),(by subst hO;rfl)⟩,h⟩
 conv=>cbv
 refine z0b hO ?_
 conv=>cbv
 refine z0u hO tiA [1,2,3,42] [4000] [] (fun tm m=>∃ (j2:Bool),((tm=frame 0 60 [(1,.c (.v (.int .i64 x3))),(2,.c (.v (.int .i64 x4))),(3,.p 4000 0 0),(42,.c (.v (.bool j2)))]∧m=⟨[(4000,.blk 0 [.c (.v (.int .i64 x0)),.c (.v (.int .i64 x1)),.c (.sl 3 x2 none)])],1⟩))∧p112_2 False fu (p112 False fu) K0 x2 x3 x4 j2) (fun L hL_2=>?_) ?_
 conv=>cbv
 refine br_h hO h (by subst hO;rfl) (fun k5 h=>?_) (fun k5 h=>?_)
 conv=>cbv
 refine br_t hO k5 ?_
 conv=>cbv
 refine br_t hO k5 ?_
 conv=>cbv
 refine br_t hO k5 ?_
 conv=>cbv
 refine br_h hO h (by subst hO;rfl) (fun k6 h=>?_) (fun k6 h=>?_)
 conv=>cbv
 refine br_t hO k6 ?_
 conv=>cbv
 refine br_t hO k6 ?_
 conv=>cbv
 refine br_t hO k6 ?_
 conv=>cbv
 refine br_t hO k5 ?_
 conv=>cbv
 refine br_t hO k6 ?_
 conv=>cbv
 refine br_t hO k5 ?_
 conv=>cbv
 refine br_t hO rfl ?_
 conv=>cbv
 refine br_t hO rfl ?_
 conv=>cbv
 refine br_t hO rfl ?_
 conv=>cbv
 refine br_t hO rfl ?_
 conv=>cbv
 refine br_t hO rfl ?_
 conv=>cbv
 refine br_t hO rfl ?_
 conv=>cbv
 exact hL_2 _ _ ⟨true,⟨(by (conv=>lhs;cbv)<;>(subst hO;rfl)),(by (conv=>lhs;cbv)<;>(subst hO;rfl))⟩,h⟩
 conv=>cbv
 refine br_f hO k6 ?_
 conv=>cbv
 refine br_f hO k6 ?_
 conv=>cbv
 refine br_f hO k6 ?_
 conv=>cbv
 refine br_t hO k5 ?_
 conv=>cbv
 refine br_f hO k6 ?_
 conv=>cbv
 refine br_t hO k5 ?_
 conv=>cbv
 refine br_h hO h (by subst hO;rfl) (fun k7 h=>?_) (fun k7 h=>?_)
 conv=>cbv
 refine br_t hO k7 ?_
 conv=>cbv
 refine br_t hO k7 ?_
 conv=>cbv
 refine br_t hO k7 ?_
 conv=>cbv
 refine br_t hO k7 ?_
 conv=>cbv
 refine br_t hO k7 ?_
 conv=>cbv
 exact hL_2 _ _ ⟨true,⟨(by (conv=>lhs;cbv)<;>(subst hO;rfl)),(by (conv=>lhs;cbv)<;>(subst hO;rfl))⟩,h⟩
 conv=>cbv
 refine br_f hO k7 ?_
 conv=>cbv
 refine br_f hO k7 ?_
 conv=>cbv
 refine br_f hO k7 ?_
 conv=>cbv
 refine br_f hO (z2d hO .eql .neq rfl rfl rfl k5) ?_
 conv=>cbv
 refine br_f hO (z2d hO .eql .neq rfl rfl rfl k5) ?_
 conv=>cbv
 refine br_f hO (z2d hO .eql .neq rfl rfl rfl k5) ?_
 conv=>cbv
 refine br_f hO k7 ?_
 conv=>cbv
 refine br_f hO (z2d hO .eql .neq rfl rfl rfl k5) ?_
 conv=>cbv
 refine br_f hO k7 ?_
 conv=>cbv
 exact hL_2 _ _ ⟨false,⟨(by (conv=>lhs;cbv)<;>(subst hO;rfl)),(by (conv=>lhs;cbv)<;>(subst hO;rfl))⟩,h⟩
 conv=>cbv
 refine br_f hO k5 ?_
 conv=>cbv
 refine br_f hO k5 ?_
 conv=>cbv
 refine br_f hO k5 ?_
 conv=>cbv
 refine br_f hO k5 ?_
 conv=>cbv
 refine br_f hO k5 ?_
 conv=>cbv
 refine br_f hO rfl ?_
 conv=>cbv
 refine br_f hO rfl ?_
 conv=>cbv
 refine br_f hO rfl ?_
 conv=>cbv
 refine br_f hO rfl ?_
 conv=>cbv
 refine br_t hO (z2d hO .eql .neq rfl rfl rfl k5) ?_
 conv=>cbv
 refine br_t hO (z2d hO .eql .neq rfl rfl rfl k5) ?_
 conv=>cbv
 refine br_t hO (z2d hO .eql .neq rfl rfl rfl k5) ?_
 conv=>cbv
 refine br_f hO rfl ?_
 conv=>cbv
 refine br_t hO (z2d hO .eql .neq rfl rfl rfl k5) ?_
 conv=>cbv
 refine br_f hO rfl ?_
 conv=>cbv
 exact hL_2 _ _ ⟨(z0a .neq x1 0),⟨(by (conv=>lhs;cbv)<;>(subst hO;rfl)),(by (conv=>lhs;cbv)<;>(subst hO;rfl))⟩,h⟩
 rintro tm m ⟨j2,hs,h⟩
 unfold p112_2 at h
 obtain⟨rfl,rfl⟩:=hs
 conv=>cbv
 refine br_h hO h (by subst hO;rfl) (fun k2 h=>?_) (fun k2 h=>?_)
 conv=>cbv
 rw [b]
 exact⟨false,_,_,_,⟨(by subst hO;rfl),(by subst hO;rfl)⟩,h⟩
 conv=>cbv
 refine z0b hO ?_
 conv=>cbv
 refine z0r hO tiA [1,2,3,7] [4000] [] (fun (n:Nat) tm m=>∃ (z3:Int),((tm=frame 0 60 [(1,.c (.v (.int .i64 x3))),(2,.c (.v (.int .i64 x4))),(3,.p 4000 0 0),(7,.c (.v (.int .i64 z3)))]∧m=⟨[(4000,.blk 0 [.c (.v (.int .i64 x0)),.c (.v (.int .i64 x1)),.c (.sl 3 x2 none)])],1⟩))∧p112_1L False fu (p112 False fu) K0 x2 x3 x4 n z3) (fun n=>n) fu ⟨0,⟨(by (conv=>lhs;cbv)<;>(subst hO;rfl)),(by (conv=>lhs;cbv)<;>(subst hO;rfl))⟩,h⟩ ?_
 rintro n1 tm m L ⟨z3,hs,h⟩ hLn1
 (cases n1 with
 | zero=>rw [p112_1L] at h;exact h.elim
 | succ n1 =>
 rw [p112_1L] at h
 unfold p112_1 at h
 obtain⟨rfl,rfl⟩:=hs
 conv=>cbv
 refine br_h hO h (by subst hO;rfl) (fun k3 h=>?_) (fun k3 h=>?_)
 conv=>cbv
 refine z0b hO ?_
 conv=>cbv
 refine and_h h (fun g=>(by subst hO;exact g)) (fun h=>?_)
 refine and_h h (fun g=>(by subst hO;exact g)) (fun h=>?_)
 obtain⟨c4,c5,c6,hr,h⟩:=z0j h
 refine z0m hO _ (by subst hO;exact hr) ?_
 clear hr
 conv=>cbv
 refine z0c hO [.shut,.shut,.shut] (ih_p112 O.len hN h) ?_
 intro e Q a b
 conv=>cbv
 refine⟨by subst a hO;rfl,?_⟩
 intro r bs d
 rw [b] at d
 clear a b h
 obtain⟨y7,_,_,_,⟨rfl,rfl⟩,h⟩:=d
 conv=>cbv
 refine br_h hO h (by subst hO;rfl) (fun k4 h=>?_) (fun k4 h=>?_)
 conv=>cbv
 rw [b]
 exact⟨false,_,_,_,⟨(by subst hO;rfl),(by subst hO;rfl)⟩,h⟩
 conv=>cbv
 refine z0b hO ?_
 conv=>cbv
 exact hLn1 n1 _ _ (Nat.lt_succ_self n1) ⟨z0d .add .i64 z3 1,⟨(by (conv=>lhs;cbv)<;>(subst hO;rfl)),(by (conv=>lhs;cbv)<;>(subst hO;rfl))⟩,h⟩
 conv=>cbv
 rw [b]
 exact⟨true,_,_,_,⟨(by subst hO;rfl),(by subst hO;rfl)⟩,h⟩)
theorem dd_p112 (fu:Nat):D_p112 fu:=by
 induction fu with
 | zero=>unfold D_p112;intros;rename_i h;rw [p112] at h;exact h.elim
 | succ n ih =>
  exact (by unfold D_p112;intro K0 L hN x0 x1 x2 x3 x4 h;exact b_p112 n ih L hN (by rw [p112] at h;exact h))
theorem d_p112 (fu:Nat):D_p112 fu:=dd_p112 fu
theorem d_p69 (fu:Nat){K0:Bool→Prop}(L:EL→Nat)(hN:L=List.length){x0 x1:Int}{x2:EL}{x3:Int}(h:p69 False fu K0 x0 x1 x2 x3):Den Try.prog G0 69 [.agg [.c (.v (.int .i64 x0)),.c (.v (.int .i64 x1)),.c (.sl 3 x2 none)],.c (.v (.int .i64 x3))] (fun r bs=>(∃ (y0:Bool) (o0 o1:OV),(r=.c (.v (.bool y0))∧bs=[o0,o1])∧K0 y0)):=by
 obtain⟨O,hO⟩:∃ O,O=std 0 T G0 (Den Try.prog G0):=⟨_,rfl⟩
 have hLO:L=O.len:=by rw [hN,hO];rfl
 subst hLO
 refine den_h hO tiA mixed tabOk (fn:=Try.f69) (sh:=true) (by kernel_rfl) rfl rfl rfl rfl ?_
 intro Q b
 unfold p69 at h
 conv=>cbv
 refine z0u hO tiA [4] [] [] (fun tm m=>∃ (j1:Bool),((tm=frame 0 15 [(4,.c (.v (.bool j1)))]∧m=⟨[],1⟩))∧p69_1 False fu K0 j1) (fun L hL_1=>?_) ?_
 conv=>cbv
 refine z0c hO [.shut,.shut] (d_p111 fu O.len hN h) ?_
 intro e Q a b
 conv=>cbv
 refine⟨by subst a hO;rfl,?_⟩
 intro r bs d
 rw [b] at d
 clear a b h
 obtain⟨y2,_,_,⟨rfl,rfl⟩,h⟩:=d
 conv=>cbv
 refine br_h hO h (by subst hO;rfl) (fun k1 h=>?_) (fun k1 h=>?_)
 conv=>cbv
 refine br_t hO k1 ?_
 conv=>cbv
 refine br_t hO k1 ?_
 conv=>cbv
 refine br_t hO k1 ?_
 conv=>cbv
 refine br_t hO k1 ?_
 conv=>cbv
 refine z0c hO [.shut,.shut,.shut] (d_p112 fu O.len hN h) ?_
 intro e Q a b
 conv=>cbv
 refine⟨by subst a hO;rfl,?_⟩
 intro r bs d
 rw [b] at d
 clear a b h
 obtain⟨y3,_,_,_,⟨rfl,rfl⟩,h⟩:=d
 conv=>cbv
 refine br_t hO k1 ?_
 conv=>cbv
 exact hL_1 _ _ ⟨y3,⟨(by (conv=>lhs;cbv)<;>(subst hO;rfl)),(by (conv=>lhs;cbv)<;>(subst hO;rfl))⟩,h⟩
 conv=>cbv
 refine br_f hO k1 ?_
 conv=>cbv
 refine br_f hO k1 ?_
 conv=>cbv
 refine br_f hO k1 ?_
 conv=>cbv
 refine br_f hO k1 ?_
 conv=>cbv
 refine br_f hO k1 ?_
 conv=>cbv
 exact hL_1 _ _ ⟨false,⟨(by (conv=>lhs;cbv)<;>(subst hO;rfl)),(by (conv=>lhs;cbv)<;>(subst hO;rfl))⟩,h⟩
 rintro tm m ⟨j1,hs,h⟩
 unfold p69_1 at h
 obtain⟨rfl,rfl⟩:=hs
 conv=>cbv
 rw [b]
 exact⟨j1,_,_,⟨(by subst hO;rfl),(by subst hO;rfl)⟩,h⟩
def D_p61 (fu:Nat):Prop:=∀ {K0:Bool→Prop} (L:EL→Nat) (_:L=List.length) {x0 x1:Int} {x2:ByteArray} {x3 x4:EL} (_:p61 False fu K0 x0 x1 x2 x3 x4),Den Try.prog G0 61 [.agg [.c (.v (.int .i64 x0)),.c (.v (.int .i64 x1)),.c (.v (.string x2)),.c (.sl 3 x3 none),.c (.sl 5 x4 none)]] (fun r bs=>(∃ (y0:Bool) (o0:OV),(r=.c (.v (.bool y0))∧bs=[o0])∧K0 y0))
theorem b_p61 (fu:Nat)(ih_p61:D_p61 fu){K0:Bool→Prop}(L:EL→Nat)(hN:L=List.length){x0 x1:Int}{x2:ByteArray}{x3 x4:EL}(h:p61_b False fu (p61 False fu) K0 x0 x1 x2 x3 x4):Den Try.prog G0 61 [.agg [.c (.v (.int .i64 x0)),.c (.v (.int .i64 x1)),.c (.v (.string x2)),.c (.sl 3 x3 none),.c (.sl 5 x4 none)]] (fun r bs=>(∃ (y0:Bool) (o0:OV),(r=.c (.v (.bool y0))∧bs=[o0])∧K0 y0)):=by
 obtain⟨O,hO⟩:∃ O,O=std 0 T G0 (Den Try.prog G0):=⟨_,rfl⟩
 have hLO:L=O.len:=by rw [hN,hO];rfl
 subst hLO
 refine den_h hO tiA mixed tabOk (fn:=Try.f61) (sh:=true) (by kernel_rfl) rfl rfl rfl rfl ?_
 intro Q b
 unfold p61_b at h
 conv=>cbv
 refine br_h hO h (by subst hO;rfl) (fun k1 h=>?_) (fun k1 h=>?_)
 conv=>cbv
 rw [b]
 exact⟨false,_,⟨(by subst hO;rfl),(by subst hO;rfl)⟩,h⟩
 conv=>cbv
 refine z0b hO ?_
 conv=>cbv
 refine z0r hO tiA [1,3] [2000] [] (fun (n:Nat) tm m=>∃ (z1:Int),((tm=frame 0 37 [(1,.p 2000 0 0),(3,.c (.v (.int .i64 z1)))]∧m=⟨[(2000,.blk 0 [.c (.v (.int .i64 x0)),.c (.v (.int .i64 x1)),.c (.v (.string x2)),.c (.sl 3 x3 none),.c (.sl 5 x4 none)])],1⟩))∧p61_2L False fu (p61 False fu) K0 x3 x4 n z1) (fun n=>n) fu ⟨0,⟨(by (conv=>lhs;cbv)<;>(subst hO;rfl)),(by (conv=>lhs;cbv)<;>(subst hO;rfl))⟩,h⟩ ?_
 rintro n1 tm m L ⟨z1,hs,h⟩ hLn1
 (cases n1 with
 | zero=>rw [p61_2L] at h;exact h.elim
 | succ n1 =>
 rw [p61_2L] at h
 unfold p61_2 at h
 obtain⟨rfl,rfl⟩:=hs
 conv=>cbv
 refine br_h hO h (by subst hO;rfl) (fun k2 h=>?_) (fun k2 h=>?_)
 conv=>cbv
 refine z0b hO ?_
 conv=>cbv
 refine and_h h (fun g=>(by subst hO;exact g)) (fun h=>?_)
 refine and_h h (fun g=>(by subst hO;exact g)) (fun h=>?_)
 obtain⟨c2,c3,c4,hr,h⟩:=z0j h
 refine z0m hO _ (by subst hO;exact hr) ?_
 clear hr
 conv=>cbv
 refine z0c hO [.shut,.shut] (d_p69 fu O.len hN h) ?_
 intro e Q a b
 conv=>cbv
 refine⟨by subst a hO;rfl,?_⟩
 intro r bs d
 rw [b] at d
 clear a b h
 obtain⟨y5,_,_,⟨rfl,rfl⟩,h⟩:=d
 conv=>cbv
 refine br_h hO h (by subst hO;rfl) (fun k3 h=>?_) (fun k3 h=>?_)
 conv=>cbv
 rw [b]
 exact⟨false,_,⟨(by subst hO;rfl),(by subst hO;rfl)⟩,h⟩
 conv=>cbv
 refine z0b hO ?_
 conv=>cbv
 exact hLn1 n1 _ _ (Nat.lt_succ_self n1) ⟨z0d .add .i64 z1 1,⟨(by (conv=>lhs;cbv)<;>(subst hO;rfl)),(by (conv=>lhs;cbv)<;>(subst hO;rfl))⟩,h⟩
 conv=>cbv
 refine z0r hO tiA [1,4] [2000] [] (fun (n:Nat) tm m=>∃ (z6:Int),((tm=frame 0 37 [(1,.p 2000 0 0),(4,.c (.v (.int .i64 z6)))]∧m=⟨[(2000,.blk 0 [.c (.v (.int .i64 x0)),.c (.v (.int .i64 x1)),.c (.v (.string x2)),.c (.sl 3 x3 none),.c (.sl 5 x4 none)])],1⟩))∧p61_1L False fu (p61 False fu) K0 x4 n z6) (fun n=>n) fu ⟨0,⟨(by (conv=>lhs;cbv)<;>(subst hO;rfl)),(by (conv=>lhs;cbv)<;>(subst hO;rfl))⟩,h⟩ ?_
 rintro n2 tm m L ⟨z6,hs,h⟩ hLn2
 (cases n2 with
 | zero=>rw [p61_1L] at h;exact h.elim
 | succ n2 =>
 rw [p61_1L] at h
 unfold p61_1 at h
 obtain⟨rfl,rfl⟩:=hs
 conv=>cbv
 refine br_h hO h (by subst hO;rfl) (fun k4 h=>?_) (fun k4 h=>?_)
 conv=>cbv
 refine z0b hO ?_
 conv=>cbv
 refine and_h h (fun g=>(by subst hO;exact g)) (fun h=>?_)
 refine and_h h (fun g=>(by subst hO;exact g)) (fun h=>?_)
 obtain⟨c7,c8,c9,c10,c11,hr,h⟩:=z0e h
 refine z0m hO _ (by subst hO;exact hr) ?_
 clear hr
 conv=>cbv
 refine z0c hO [.shut] (ih_p61 O.len hN h) ?_
 intro e Q a b
 conv=>cbv
 refine⟨by subst a hO;rfl,?_⟩
 intro r bs d
 rw [b] at d
 clear a b h
 obtain⟨y12,_,⟨rfl,rfl⟩,h⟩:=d
 conv=>cbv
 refine br_h hO h (by subst hO;rfl) (fun k5 h=>?_) (fun k5 h=>?_)
 conv=>cbv
 rw [b]
 exact⟨false,_,⟨(by subst hO;rfl),(by subst hO;rfl)⟩,h⟩
 conv=>cbv
 refine z0b hO ?_
 conv=>cbv
 exact hLn2 n2 _ _ (Nat.lt_succ_self n2) ⟨z0d .add .i64 z6 1,⟨(by (conv=>lhs;cbv)<;>(subst hO;rfl)),(by (conv=>lhs;cbv)<;>(subst hO;rfl))⟩,h⟩
 conv=>cbv
 rw [b]
 exact⟨true,_,⟨(by subst hO;rfl),(by subst hO;rfl)⟩,h⟩))
theorem dd_p61 (fu:Nat):D_p61 fu:=by
 induction fu with
 | zero=>unfold D_p61;intros;rename_i h;rw [p61] at h;exact h.elim
 | succ n ih =>
  exact (by unfold D_p61;intro K0 L hN x0 x1 x2 x3 x4 h;exact b_p61 n ih L hN (by rw [p61] at h;exact h))
theorem d_p61 (fu:Nat):D_p61 fu:=dd_p61 fu
def D_p62 (fu:Nat):Prop:=∀ {K0:Bool→Prop} (L:EL→Nat) (_:L=List.length) {x0 x1:Int} {x2:ByteArray} {x3 x4:EL} (_:p62 False fu K0 x0 x1 x2 x3 x4),Den Try.prog G0 62 [.agg [.c (.v (.int .i64 x0)),.c (.v (.int .i64 x1)),.c (.v (.string x2)),.c (.sl 3 x3 none),.c (.sl 5 x4 none)]] (fun r bs=>(∃ (y0:Bool) (o0:OV),(r=.c (.v (.bool y0))∧bs=[o0])∧K0 y0))
theorem b_p62 (fu:Nat)(ih_p62:D_p62 fu){K0:Bool→Prop}(L:EL→Nat)(hN:L=List.length){x0 x1:Int}{x2:ByteArray}{x3 x4:EL}(h:p62_b False fu (p62 False fu) K0 x0 x1 x2 x3 x4):Den Try.prog G0 62 [.agg [.c (.v (.int .i64 x0)),.c (.v (.int .i64 x1)),.c (.v (.string x2)),.c (.sl 3 x3 none),.c (.sl 5 x4 none)]] (fun r bs=>(∃ (y0:Bool) (o0:OV),(r=.c (.v (.bool y0))∧bs=[o0])∧K0 y0)):=by
 obtain⟨O,hO⟩:∃ O,O=std 0 T G0 (Den Try.prog G0):=⟨_,rfl⟩
 have hLO:L=O.len:=by rw [hN,hO];rfl
 subst hLO
 refine den_h hO tiA mixed tabOk (fn:=Try.f62) (sh:=true) (by kernel_rfl) rfl rfl rfl rfl ?_
 intro Q b
 unfold p62_b at h
 conv=>cbv
 refine br_h hO h (by subst hO;rfl) (fun k1 h=>?_) (fun k1 h=>?_)
 conv=>cbv
 rw [b]
 exact⟨false,_,⟨(by subst hO;rfl),(by subst hO;rfl)⟩,h⟩
 conv=>cbv
 refine z0b hO ?_
 conv=>cbv
 refine z0r hO tiA [1,3] [2000] [] (fun (n:Nat) tm m=>∃ (z1:Int),((tm=frame 0 22 [(1,.p 2000 0 0),(3,.c (.v (.int .i64 z1)))]∧m=⟨[(2000,.blk 0 [.c (.v (.int .i64 x0)),.c (.v (.int .i64 x1)),.c (.v (.string x2)),.c (.sl 3 x3 none),.c (.sl 5 x4 none)])],1⟩))∧p62_1L False fu (p62 False fu) K0 x4 n z1) (fun n=>n) fu ⟨0,⟨(by (conv=>lhs;cbv)<;>(subst hO;rfl)),(by (conv=>lhs;cbv)<;>(subst hO;rfl))⟩,h⟩ ?_
 rintro n1 tm m L ⟨z1,hs,h⟩ hLn1
 (cases n1 with
 | zero=>rw [p62_1L] at h;exact h.elim
 | succ n1 =>
 rw [p62_1L] at h
 unfold p62_1 at h
 obtain⟨rfl,rfl⟩:=hs
 conv=>cbv
 refine br_h hO h (by subst hO;rfl) (fun k2 h=>?_) (fun k2 h=>?_)
 conv=>cbv
 refine z0b hO ?_
 conv=>cbv
 refine and_h h (fun g=>(by subst hO;exact g)) (fun h=>?_)
 refine and_h h (fun g=>(by subst hO;exact g)) (fun h=>?_)
 obtain⟨c2,c3,c4,c5,c6,hr,h⟩:=z0e h
 refine z0m hO _ (by subst hO;exact hr) ?_
 clear hr
 conv=>cbv
 refine z0c hO [.shut] (ih_p62 O.len hN h) ?_
 intro e Q a b
 conv=>cbv
 refine⟨by subst a hO;rfl,?_⟩
 intro r bs d
 rw [b] at d
 clear a b h
 obtain⟨y7,_,⟨rfl,rfl⟩,h⟩:=d
 conv=>cbv
 refine br_h hO h (by subst hO;rfl) (fun k3 h=>?_) (fun k3 h=>?_)
 conv=>cbv
 rw [b]
 exact⟨false,_,⟨(by subst hO;rfl),(by subst hO;rfl)⟩,h⟩
 conv=>cbv
 refine z0b hO ?_
 conv=>cbv
 exact hLn1 n1 _ _ (Nat.lt_succ_self n1) ⟨z0d .add .i64 z1 1,⟨(by (conv=>lhs;cbv)<;>(subst hO;rfl)),(by (conv=>lhs;cbv)<;>(subst hO;rfl))⟩,h⟩
 conv=>cbv
 rw [b]
 exact⟨true,_,⟨(by subst hO;rfl),(by subst hO;rfl)⟩,h⟩)
theorem dd_p62 (fu:Nat):D_p62 fu:=by
 induction fu with
 | zero=>unfold D_p62;intros;rename_i h;rw [p62] at h;exact h.elim
 | succ n ih =>
  exact (by unfold D_p62;intro K0 L hN x0 x1 x2 x3 x4 h;exact b_p62 n ih L hN (by rw [p62] at h;exact h))
theorem d_p62 (fu:Nat):D_p62 fu:=dd_p62 fu
theorem d_p16 (fu:Nat){K0:Bool→Prop}(L:EL→Nat)(hN:L=List.length){x0 x1:Int}{x2:ByteArray}{x3 x4:EL}(h:p16 False fu K0 x0 x1 x2 x3 x4):Den Try.prog G0 16 [.agg [.c (.v (.int .i64 x0)),.c (.v (.int .i64 x1)),.c (.v (.string x2)),.c (.sl 3 x3 none),.c (.sl 5 x4 none)]] (fun r bs=>(∃ (y0:Bool) (o0:OV),(r=.c (.v (.bool y0))∧bs=[o0])∧K0 y0)):=by
 obtain⟨O,hO⟩:∃ O,O=std 0 T G0 (Den Try.prog G0):=⟨_,rfl⟩
 have hLO:L=O.len:=by rw [hN,hO];rfl
 subst hLO
 refine den_h hO tiA mixed tabOk (fn:=Try.f16) (sh:=true) (by kernel_rfl) rfl rfl rfl rfl ?_
 intro Q b
 unfold p16 at h
 conv=>cbv
 refine z0c hO [.shut,.shut] (d_p59 fu O.len hN h) ?_
 intro e Q a b
 conv=>cbv
 refine⟨by subst a hO;rfl,?_⟩
 intro r bs d
 rw [b] at d
 clear a b h
 obtain⟨y1,y2,_,_,⟨rfl,rfl⟩,h⟩:=d
 conv=>cbv
 refine z0u hO tiA [2] [] [] (fun tm m=>∃ (j3:Bool),((tm=frame 0 24 [(2,.c (.v (.bool j3)))]∧m=⟨[],1⟩))∧p16_1 False fu K0 j3) (fun L hL_1=>?_) ?_
 conv=>cbv
 refine br_h hO h (by subst hO;rfl) (fun k1 h=>?_) (fun k1 h=>?_)
 conv=>cbv
 refine br_t hO k1 ?_
 conv=>cbv
 refine z0c hO [.shut,.shut] (d_p60 fu O.len hN h) ?_
 intro e Q a b
 conv=>cbv
 refine⟨by subst a hO;rfl,?_⟩
 intro r bs d
 rw [b] at d
 clear a b h
 obtain⟨y4,_,_,⟨rfl,rfl⟩,h⟩:=d
 conv=>cbv
 refine br_t hO k1 ?_
 conv=>cbv
 refine br_t hO k1 ?_
 conv=>cbv
 refine br_h hO h (by subst hO;rfl) (fun k2 h=>?_) (fun k2 h=>?_)
 conv=>cbv
 refine br_t hO k2 ?_
 conv=>cbv
 refine z0c hO [.shut] (d_p61 fu O.len hN h) ?_
 intro e Q a b
 conv=>cbv
 refine⟨by subst a hO;rfl,?_⟩
 intro r bs d
 rw [b] at d
 clear a b h
 obtain⟨y5,_,⟨rfl,rfl⟩,h⟩:=d
 conv=>cbv
 refine br_t hO k2 ?_
 conv=>cbv
 refine br_h hO h (by subst hO;rfl) (fun k3 h=>?_) (fun k3 h=>?_)
 conv=>cbv
 refine br_t hO k3 ?_
 conv=>cbv
 refine z0c hO [.shut] (d_p62 fu O.len hN h) ?_
 intro e Q a b
 conv=>cbv
 refine⟨by subst a hO;rfl,?_⟩
 intro r bs d
 rw [b] at d
 clear a b h
 obtain⟨y6,_,⟨rfl,rfl⟩,h⟩:=d
 conv=>cbv
 refine br_t hO k3 ?_
 conv=>cbv
 exact hL_1 _ _ ⟨y6,⟨(by (conv=>lhs;cbv)<;>(subst hO;rfl)),(by (conv=>lhs;cbv)<;>(subst hO;rfl))⟩,h⟩
 conv=>cbv
 refine br_f hO k3 ?_
 conv=>cbv
 refine br_f hO k3 ?_
 conv=>cbv
 exact hL_1 _ _ ⟨false,⟨(by (conv=>lhs;cbv)<;>(subst hO;rfl)),(by (conv=>lhs;cbv)<;>(subst hO;rfl))⟩,h⟩
 conv=>cbv
 refine br_f hO k2 ?_
 conv=>cbv
 refine br_f hO k2 ?_
 conv=>cbv
 refine br_f hO rfl ?_
 conv=>cbv
 refine br_f hO rfl ?_
 conv=>cbv
 refine br_f hO rfl ?_
 conv=>cbv
 exact hL_1 _ _ ⟨false,⟨(by (conv=>lhs;cbv)<;>(subst hO;rfl)),(by (conv=>lhs;cbv)<;>(subst hO;rfl))⟩,h⟩
 conv=>cbv
 refine br_f hO k1 ?_
 conv=>cbv
 refine br_f hO k1 ?_
 conv=>cbv
 refine br_f hO k1 ?_
 conv=>cbv
 refine br_f hO rfl ?_
 conv=>cbv
 refine br_f hO rfl ?_
 conv=>cbv
 refine br_f hO rfl ?_
 conv=>cbv
 refine br_f hO rfl ?_
 conv=>cbv
 refine br_f hO rfl ?_
 conv=>cbv
 refine br_f hO rfl ?_
 conv=>cbv
 exact hL_1 _ _ ⟨false,⟨(by (conv=>lhs;cbv)<;>(subst hO;rfl)),(by (conv=>lhs;cbv)<;>(subst hO;rfl))⟩,h⟩
 rintro tm m ⟨j3,hs,h⟩
 unfold p16_1 at h
 obtain⟨rfl,rfl⟩:=hs
 conv=>cbv
 rw [b]
 exact⟨j3,_,⟨(by subst hO;rfl),(by subst hO;rfl)⟩,h⟩
def BO {ρ:Type} (p:(Bool→ρ)→ρ) (A:Prop):Prop:=∃ b,(∀ K:Bool→ρ,p K=K b)∧(b=true→A)
theorem w7z {ρ:Type} (fail:ρ) (fu:Nat) (k:Int):∃ a:Int,(∀ K:Int→ρ,p136 fail fu K k=K a)∧((a=0∧(k=0∨k=1∨k=2))∨(a=2∧(k=3∨k=4∨k=5))∨(a=3∧k=6)∨a=-1):=by
 by_cases h:0≤k∧k≤6
 ·obtain⟨n,rfl⟩:∃ n:Nat,k=n:=⟨k.toNat,by omega⟩
  refine⟨((nkN n:Nat):Int),fun K=>k0m fail fu K n (by omega),?_⟩
  have:n=0∨n=1∨n=2∨n=3∨n=4∨n=5∨n=6:=by omega
  rcases this with rfl | rfl | rfl | rfl | rfl | rfl | rfl<;>simp [nkN,tmN]
 ·refine⟨-1,fun K=>?_,.inr (.inr (.inr rfl))⟩
  rw [p136,eqlF (by omega),cond_false,eqlF (by omega),cond_false,p136_4,eqlF (by omega),p136_3,cond_false,eqlF (by omega),cond_false,eqlF (by omega),cond_false,p136_2,eqlF (by omega),p136_1,cond_false,eqlF (by omega),cond_false]
def k0c (k n:Int) (s:ByteArray) (ll al:Nat):Prop :=
 (k=0∧0≤n∧n≤1073741824∧s.size=0∧ll=0∧al=0)∨(k=1∧n=0∧s.size=0∧ll=1∧al=0)∨(k=2∧n=0∧al=0)∨(3≤k∧k≤6∧n=0∧s.size=0∧ll=0∧al=tmN k.toNat)
theorem k0r {ρ:Type} (fail:ρ) (fu:Nat) (k n:Int) (s:ByteArray) (L A:EL):BO (fun K=>p108 fail fu K k n s L A) (k0c k n s L.length A.length):=by
 obtain⟨a,ha,hk⟩:=w7z fail fu k
 have bad:∀ K:Bool→ρ,p108_2 fail fu K k L true=K false:=fun K=>by rw [p108_2,cond_true]
 by_cases c1:a=((A.length:Nat):Int)
 ·have h1:∀ K:Bool→ρ,p108 fail fu K k n s L A=(bif (z0a .neq k 0) then (bif (z0a .neq n 0) then (p108_2 fail fu K k L true) else (bif (z0a .lss n 0) then (p108_2 fail fu K k L true) else (bif (z0a .gtr n 1073741824) then (p108_2 fail fu K k L true) else (bif (z0a .neq k 2) then (p108_2 fail fu K k L (z2a .neq s ⟨#[]⟩)) else (p108_2 fail fu K k L false))))) else (bif (z0a .lss n 0) then (p108_2 fail fu K k L true) else (bif (z0a .gtr n 1073741824) then (p108_2 fail fu K k L true) else (bif (z0a .neq k 2) then (p108_2 fail fu K k L (z2a .neq s ⟨#[]⟩)) else (p108_2 fail fu K k L false))))):=fun K=>by
   rw [p108,ha,neqF c1,cond_false]
  by_cases k2:k=2
  ·by_cases n0:n=0
   ·refine⟨true,fun K=>?_,fun _=>.inr (.inr (.inl ⟨k2,n0,by omega⟩))⟩
    dsimp only
    rw [h1,neqT (by omega),cond_true,neqF n0,cond_false,lssF (by omega),cond_false,gtrF (by omega),cond_false,neqF k2,cond_false,p108_2,cond_false,eqlT k2,cond_true,p108_1]
   ·refine⟨false,fun K=>?_,fun h=>by cases h⟩
    dsimp only
    rw [h1,neqT (by omega),cond_true,neqT n0,cond_true,bad]
  ·by_cases hn:0≤n∧n≤1073741824∧(k≠0→n=0)
   ·have h2:∀ K:Bool→ρ,p108 fail fu K k n s L A=p108_2 fail fu K k L (!decide (s.size=0)):=fun K=>by
     rw [h1]
     by_cases k0:k=0
     ·rw [neqF k0,cond_false,lssF (by omega),cond_false,gtrF (by omega),cond_false,neqT k2,cond_true,w2h]
     ·rw [neqT k0,cond_true,neqF (hn.2.2 k0),cond_false,lssF (by omega),cond_false,gtrF (by omega),cond_false,neqT k2,cond_true,w2h]
    by_cases s0:s.size=0
    ·have h3:∀ K:Bool→ρ,p108 fail fu K k n s L A=(bif (z0a .eql k 1) then (bif (z0a .eql ((L.length:Nat):Int) 1) then (K true) else (K false)) else (K (z0a .eql ((L.length:Nat):Int) 0))):=fun K=>by
      rw [h2,decide_eq_true s0,Bool.not_true,p108_2,cond_false,eqlF k2,cond_false];rfl
     by_cases k1:k=1
     ·by_cases l1:L.length=1
      ·refine⟨true,fun K=>?_,fun _=>.inr (.inl ⟨k1,hn.2.2 (by omega),s0,l1,by omega⟩)⟩
       dsimp only
       rw [h3,eqlT k1,cond_true,eqlT (by omega),cond_true]
      ·refine⟨false,fun K=>?_,fun h=>by cases h⟩
       dsimp only
       rw [h3,eqlT k1,cond_true,eqlF (by omega),cond_false]
     ·by_cases l0:L.length=0
      ·refine⟨true,fun K=>?_,fun _=>?_⟩
       ·dsimp only
        rw [h3,eqlF k1,cond_false,eqlT (by omega)]
       ·by_cases k0:k=0
        ·exact .inl ⟨k0,hn.1,hn.2.1,s0,l0,by omega⟩
        ·refine .inr (.inr (.inr ⟨by omega,by omega,hn.2.2 k0,s0,l0,?_⟩))
         rcases hk with ⟨_,h⟩ | ⟨h,h'⟩ | ⟨h,h'⟩ | h
         ·omega
         ·have:k.toNat≠6:=by omega
          unfold tmN;rw [if_neg this];omega
         ·have:k.toNat=6:=by omega
          unfold tmN;rw [if_pos this];omega
         ·omega
      ·refine⟨false,fun K=>?_,fun h=>by cases h⟩
       dsimp only
       rw [h3,eqlF k1,cond_false,eqlF (by omega)]
    ·refine⟨false,fun K=>?_,fun h=>by cases h⟩
     dsimp only
     rw [h2,decide_eq_false s0,Bool.not_false,bad]
   ·refine⟨false,fun K=>?_,fun h=>by cases h⟩
    dsimp only
    rw [h1]
    by_cases k0:k=0
    ·rw [neqF k0,cond_false]
     by_cases m1:n < 0
     ·rw [lssT m1,cond_true,bad]
     ·rw [lssF (by omega),cond_false,gtrT (by omega),cond_true,bad]
    ·rw [neqT k0,cond_true]
     by_cases n0:n=0
     ·exact absurd ⟨by omega,by omega,fun _=>n0⟩ hn
     ·rw [neqT n0,cond_true,bad]
 ·refine⟨false,fun K=>?_,fun h=>by cases h⟩
  dsimp only
  rw [p108,ha,neqT c1,cond_true,bad]
mutual
def Tm.whole:Tm→Prop
 | .mk k n s l a=>k0c k n s l.length a.length∧Tm.wholes a
def Tm.wholes:List Tm→Prop
 | []=>True
 | a :: l=>Tm.whole a∧Tm.wholes l
end
theorem z3y {k n:Int} {s:ByteArray} {ll al:Nat} (h:k0c k n s ll al):al≤3:=by
 rcases h with h | h | h | h
 ·omega
 ·omega
 ·omega
 ·have:tmN k.toNat≤3:=by unfold tmN;split<;>omega
  omega
theorem w7e {ρ:Type} (fail:ρ):∀ (left:Nat),left≤2000→∀ (fu:Nat) (t:Tm),left + 10≤fu →
  ∃ w:Option Nat,(∀ K:Int→Bool→ρ,p59 fail fu K t.k t.n t.nm (Lv.rows t.ls) (Tm.rows t.args) (left:Nat)=match w with | some q=>K (q:Nat) true | none=>K (-1) false)∧∀ q,w=some q→t.parts + q=left∧t.whole:=by
 intro left
 induction left using Nat.strongRecOn with
 | ind left ih =>
  intro hl2 fu t hf
  obtain⟨k,n,s,l,a⟩:=t
  obtain⟨m,rfl⟩:∃ m,fu=m + 1:=⟨fu - 1,by omega⟩
  simp only [Tm.k,Tm.n,Tm.nm,Tm.ls,Tm.args]
  have hsub:z0d .sub .i64 ((left:Nat):Int) 1=((left:Nat):Int) - 1:=subZ (by omega) (by omega)
  by_cases h0:left=0
  ·refine⟨none,fun K=>?_,fun q h=>by cases h⟩
   rw [p59,p59_b,hsub,lssT (by omega),cond_true,p59_2,cond_true]
  ·obtain⟨b,hb,hb2⟩:=k0r fail m k n s (Lv.rows l) (Tm.rows a)
   dsimp only at hb
   rw [Lv.rows_len,Tm.rows_len] at hb2
   generalize hs:p59 fail m=sf
   have h1:∀ K:Int→Bool→ρ,p59 fail (m + 1) K k n s (Lv.rows l) (Tm.rows a) (left:Nat)=p59_2 fail m sf K (Tm.rows a) ((left - 1:Nat):Int) (!b):=fun K=>by
    rw [p59,p59_b,hs,hsub,lssF (by omega),cond_false,hb,show ((left:Nat):Int) - 1=((left - 1:Nat):Int) by omega]
   cases b with
   | false =>
    refine⟨none,fun K=>?_,fun q h=>by cases h⟩
    rw [h1,p59_2,Bool.not_false,cond_true]
   | true =>
    have hpo:=hb2 rfl
    have ha3:=z3y hpo
    have loop:∀ (r i j lf:Nat),i + r=a.length→r < j→lf≤left - 1→∃ w:Option Nat,(∀ K:Int→Bool→ρ,p59_1L fail m sf K (Tm.rows a) j ((lf:Nat):Int) ((i:Nat):Int)=match w with | some q=>K (q:Nat) true | none=>K (-1) false)∧∀ q,w=some q→Tm.partss (a.drop i) + q=lf∧Tm.wholes (a.drop i):=by
     intro r
     induction r with
     | zero =>
      intro i j lf hi hj hlf
      obtain⟨j,rfl⟩:∃ j',j=j' + 1:=⟨j - 1,by omega⟩
      refine⟨some lf,fun K=>?_,fun q h=>?_⟩
      ·rw [p59_1L,p59_1,Tm.rows_len,lssF (by omega),cond_false]
      ·injection h with h
       rw [List.drop_eq_nil_of_le (by omega)]
       exact⟨by simp [Tm.partss,h],trivial⟩
     | succ r ihr =>
      intro i j lf hi hj hlf
      obtain⟨j,rfl⟩:∃ j',j=j' + 1:=⟨j - 1,by omega⟩
      have hlt:i < a.length:=by omega
      have hd:a.drop i=a[i] :: a.drop (i + 1):=List.drop_eq_getElem_cons hlt
      obtain⟨w,hw,hw2⟩:=ih lf (by omega) (by omega) m a[i] (by omega)
      rw [hs] at hw
      have h2:∀ K:Int→Bool→ρ,p59_1L fail m sf K (Tm.rows a) (j + 1) ((lf:Nat):Int) ((i:Nat):Int)=match w with | some q=>p59_1L fail m sf K (Tm.rows a) j ((q:Nat):Int) ((i + 1:Nat):Int) | none=>K (-1) false:=fun K=>by
       rw [p59_1L,p59_1,Tm.rows_len,lssT (by omega),cond_true,gd_y (by omega),gd_y (by omega),z4i fail a i hlt,hw]
       cases w with
       | none=>simp only [Bool.not_false,cond_true]
       | some q=>simp only [Bool.not_true,cond_false];rw [addZ (by omega) (by omega),show ((i:Nat):Int) + 1=((i + 1:Nat):Int) by omega]
      cases w with
      | none=>exact⟨none,fun K=>h2 K,fun q h=>by cases h⟩
      | some q =>
       obtain⟨g1,g2⟩:=hw2 q rfl
       obtain⟨w',hw',hw2'⟩:=ihr (i + 1) j q (by omega) (by omega) (by omega)
       refine⟨w',fun K=>(h2 K).trans (hw' K),fun q' hq=>?_⟩
       obtain⟨g3,g4⟩:=hw2' q' hq
       rw [hd]
       exact⟨by simp only [Tm.partss];omega,g2,g4⟩
    obtain⟨w,hw,hw2⟩:=loop a.length 0 m (left - 1) (by omega) (by omega) (by omega)
    refine⟨w,fun K=>?_,fun q hq=>?_⟩
    ·rw [h1,p59_2,Bool.not_true,cond_false];exact hw K
    ·obtain⟨g1,g2⟩:=hw2 q hq
     rw [List.drop_zero] at g1 g2
     exact⟨by simp only [Tm.parts];omega,hpo,g2⟩
theorem Tm.wholes_mem:∀ {l:List Tm} {a:Tm},Tm.wholes l→a ∈ l→a.whole
 | b :: l,a,h,ha=>by
  rcases List.mem_cons.1 ha with rfl | ha
  ·exact h.1
  ·exact Tm.wholes_mem h.2 ha
def Tm.dep:Nat→Tm→Prop
 | 0,_=>False
 | d + 1,.mk _ _ _ _ a=>∀ b ∈ a,Tm.dep d b
theorem w9k {ρ:Type} (fail:ρ):∀ (most:Nat),most≤100→∀ (fu:Nat) (t:Tm),most + 10≤fu→t.whole →
  ∃ d:Nat,(∀ K:Int→ρ,p60 fail fu K t.k t.n t.nm (Lv.rows t.ls) (Tm.rows t.args) (most:Nat)=K (d:Nat))∧d≤most + 1∧(d≤most→t.dep most):=by
 intro most
 induction most with
 | zero =>
  intro _ fu t hf hw
  obtain⟨m,rfl⟩:∃ m,fu=m + 1:=⟨fu - 1,by omega⟩
  refine⟨1,fun K=>?_,by omega,fun h=>absurd h (by omega)⟩
  rw [p60,p60_b,show (if (0:Int) > ((0:Nat):Int) then 0 else ((0:Nat):Int))=0 from rfl,eqlT rfl,cond_true];rfl
 | succ most ih =>
  intro hm fu t hf hw
  obtain⟨k,n,s,l,a⟩:=t
  obtain⟨m,rfl⟩:∃ m,fu=m + 1:=⟨fu - 1,by omega⟩
  simp only [Tm.k,Tm.n,Tm.nm,Tm.ls,Tm.args]
  have ha3:=z3y hw.1
  generalize hs:p60 fail m=sf
  have hif:(if (0:Int) > ((most + 1:Nat):Int) then 0 else ((most + 1:Nat):Int))=((most + 1:Nat):Int):=if_neg (by omega)
  have loop:∀ (r i j z:Nat),i + r=a.length→r < j→z≤most + 1→∃ d:Nat,(∀ K:Int→ρ,p60_1L fail m sf K (Tm.rows a) j ((most + 1:Nat):Int) ((z:Nat):Int) ((i:Nat):Int)=K ((d + 1:Nat):Int))∧d≤most + 1∧z≤d∧(d≤most→∀ b ∈ a.drop i,b.dep most):=by
   intro r
   induction r with
   | zero =>
    intro i j z hi hj hz
    obtain⟨j,rfl⟩:∃ j',j=j' + 1:=⟨j - 1,by omega⟩
    refine⟨z,fun K=>?_,hz,Nat.le_refl _,fun _ b hb=>?_⟩
    ·rw [p60_1L,p60_1,Tm.rows_len,lssF (by omega),cond_false,addZ (by omega) (by omega)];rfl
    ·rw [List.drop_eq_nil_of_le (by omega)] at hb;simp at hb
   | succ r ihr =>
    intro i j z hi hj hz
    obtain⟨j,rfl⟩:∃ j',j=j' + 1:=⟨j - 1,by omega⟩
    have hlt:i < a.length:=by omega
    have hd:a.drop i=a[i] :: a.drop (i + 1):=List.drop_eq_getElem_cons hlt
    obtain⟨d1,h1,h2,h3⟩:=ih (by omega) m a[i] (by omega) (Tm.wholes_mem hw.2 (List.getElem_mem hlt))
    rw [hs] at h1
    have hmax:∀ K:Int→ρ,p60_1L fail m sf K (Tm.rows a) (j + 1) ((most + 1:Nat):Int) ((z:Nat):Int) ((i:Nat):Int)=p60_1L fail m sf K (Tm.rows a) j ((most + 1:Nat):Int) ((max z d1:Nat):Int) ((i + 1:Nat):Int):=fun K=>by
     rw [p60_1L,p60_1,Tm.rows_len,lssT (by omega),cond_true,gd_y (by omega),gd_y (by omega),z4i fail a i hlt,subZ (by omega) (by omega),show ((most + 1:Nat):Int) - 1=((most:Nat):Int) by omega,h1,addZ (by omega) (by omega),show ((i:Nat):Int) + 1=((i + 1:Nat):Int) by omega]
     congr 1
     split<;>omega
    obtain⟨d,g1,g2,g3,g4⟩:=ihr (i + 1) j (max z d1) (by omega) (by omega) (by omega)
    refine⟨d,fun K=>(hmax K).trans (g1 K),g2,by omega,fun hdm b hb=>?_⟩
    rw [hd] at hb
    rcases List.mem_cons.1 hb with rfl | hb
    ·exact h3 (by omega)
    ·exact g4 hdm b hb
  obtain⟨d,g1,g2,g3,g4⟩:=loop a.length 0 m 0 (by omega) (by omega) (by omega)
  refine⟨d + 1,fun K=>?_,by omega,fun h b hb=>g4 (by omega) b (by simpa using hb)⟩
  rw [p60,p60_b,hs,hif,eqlF (by omega),cond_false];exact g1 K
theorem w8v {ρ:Type} (fail:ρ) (fu:Nat) (k:Int):∃ a:Int,(∀ K:Int→ρ,p138 fail fu K k=K a)∧((0≤k∧k≤4∧a=((if k=4 then 0 else lvN k.toNat:Nat):Int))∨a=-1):=by
 by_cases h:0≤k∧k≤4
 ·obtain⟨n,rfl⟩:∃ n:Nat,k=n:=⟨k.toNat,by omega⟩
  have:n=0∨n=1∨n=2∨n=3∨n=4:=by omega
  rcases this with rfl | rfl | rfl | rfl | rfl
  ·exact⟨0,fun K=>rfl,.inl ⟨by omega,by omega,rfl⟩⟩
  ·exact⟨1,fun K=>rfl,.inl ⟨by omega,by omega,rfl⟩⟩
  ·exact⟨2,fun K=>rfl,.inl ⟨by omega,by omega,rfl⟩⟩
  ·exact⟨2,fun K=>rfl,.inl ⟨by omega,by omega,rfl⟩⟩
  ·exact⟨0,fun K=>rfl,.inl ⟨by omega,by omega,rfl⟩⟩
 ·refine⟨-1,fun K=>?_,.inr rfl⟩
  rw [p138,eqlF (by omega),cond_false,eqlF (by omega),p138_2,cond_false,eqlF (by omega),cond_false,eqlF (by omega),cond_false,eqlF (by omega),p138_1,cond_false]
theorem w6t {ρ:Type} (fail:ρ):∀ (d:Nat),d≤32→∀ (fu:Nat) (l:Lv),d + 10≤fu→BO (fun K:Bool→ρ=>p112 fail fu K l.k l.n (Lv.rows l.args) 4 ((33 - d:Nat):Int)) (l.good d):=by
 intro d
 induction d with
 | zero =>
  intro _ fu l hf
  obtain⟨m,rfl⟩:∃ m,fu=m + 1:=⟨fu - 1,by omega⟩
  refine⟨false,fun K=>?_,fun h=>by cases h⟩
  dsimp only
  rw [p112,p112_b,gtrT (by omega),cond_true,p112_3,cond_true]
 | succ d ih =>
  intro hd fu l hf
  obtain⟨k,n,l⟩:=l
  obtain⟨m,rfl⟩:∃ m,fu=m + 1:=⟨fu - 1,by omega⟩
  simp only [Lv.k,Lv.n,Lv.args]
  obtain⟨a,ha,hk⟩:=w8v fail m k
  generalize hs:p112 fail m=sf
  have hdd:z0d .add .i64 ((33 - (d + 1):Nat):Int) 1=((33 - d:Nat):Int):=by rw [addZ (by omega) (by omega)];omega
  have h1:∀ K:Bool→ρ,p112 fail (m + 1) K k n (Lv.rows l) 4 ((33 - (d + 1):Nat):Int)=p112_3 fail m sf K k n (Lv.rows l) 4 ((33 - (d + 1):Nat):Int) (z0a .neq a ((l.length:Nat):Int)):=fun K=>by
   rw [p112,p112_b,hs,gtrF (by omega),cond_false,ha,Lv.rows_len]
  generalize hd0:((33 - (d + 1):Nat):Int)=dd at h1 hdd
  by_cases c1:a=((l.length:Nat):Int)
  ·have hkk:0≤k∧k≤4∧a=((if k=4 then 0 else lvN k.toNat:Nat):Int):=by
    rcases hk with h | h
    ·exact h
    ·omega
   have hl2:l.length≤2:=by
    obtain⟨_,_,h⟩:=hkk
    have:(if k=4 then 0 else lvN k.toNat)≤2:=by
     split
     ·omega
     ·unfold lvN;split
      ·omega
      ·split
       ·omega
       ·split<;>omega
    omega
   have loop:∀ (r i j:Nat),i + r=l.length→r < j→∃ b,(∀ K:Bool→ρ,p112_1L fail m sf K (Lv.rows l) 4 dd j ((i:Nat):Int)=K b)∧(b=true→∀ x ∈ l.drop i,x.good d):=by
    intro r
    induction r with
    | zero =>
     intro i j hi hj
     obtain⟨j,rfl⟩:∃ j',j=j' + 1:=⟨j - 1,by omega⟩
     refine⟨true,fun K=>?_,fun _ x hx=>?_⟩
     ·rw [p112_1L,p112_1,Lv.rows_len,lssF (by omega),cond_false]
     ·rw [List.drop_eq_nil_of_le (by omega)] at hx;simp at hx
    | succ r ihr =>
     intro i j hi hj
     obtain⟨j,rfl⟩:∃ j',j=j' + 1:=⟨j - 1,by omega⟩
     have hlt:i < l.length:=by omega
     have hdr:l.drop i=l[i] :: l.drop (i + 1):=List.drop_eq_getElem_cons hlt
     obtain⟨b,hb,hb2⟩:=ih (by omega) m l[i] (by omega)
     dsimp only at hb
     rw [hs] at hb
     have h2:∀ K:Bool→ρ,p112_1L fail m sf K (Lv.rows l) 4 dd (j + 1) ((i:Nat):Int)=bif (!b) then K false else p112_1L fail m sf K (Lv.rows l) 4 dd j ((i + 1:Nat):Int):=fun K=>by
      rw [p112_1L,p112_1,Lv.rows_len,lssT (by omega),cond_true,gd_y (by omega),gd_y (by omega),z4p fail l i hlt,hdd,hb,addZ (by omega) (by omega),show ((i:Nat):Int) + 1=((i + 1:Nat):Int) by omega]
     cases b with
     | false=>exact⟨false,fun K=>h2 K,fun h=>by cases h⟩
     | true =>
      obtain⟨b',g1,g2⟩:=ihr (i + 1) j (by omega) (by omega)
      refine⟨b',fun K=>(h2 K).trans (g1 K),fun hb' x hx=>?_⟩
      rw [hdr] at hx
      rcases List.mem_cons.1 hx with rfl | hx
      ·exact hb2 rfl
      ·exact g2 hb' x hx
   obtain⟨b,g1,g2⟩:=loop l.length 0 m (by omega) (by omega)
   have h3:∀ K:Bool→ρ,p112_2 fail m sf K (Lv.rows l) 4 dd false=K b:=fun K=>by rw [p112_2,cond_false];exact g1 K
   have h3t:∀ K:Bool→ρ,p112_2 fail m sf K (Lv.rows l) 4 dd true=K false:=fun K=>by rw [p112_2,cond_true]
   by_cases k4:k=4
   ·have hl0:l=[]:=by
     have:=hkk.2.2;rw [if_pos k4] at this
     exact List.length_eq_zero_iff.1 (by omega)
    by_cases hn:0≤n∧n < 4
    ·refine⟨b,fun K=>?_,fun hb=>⟨.inl ⟨k4,hn.1,hn.2,hl0⟩,fun x hx=>g2 hb x (by simpa using hx)⟩⟩
     dsimp only
     rw [h1,neqF c1,p112_3,cond_false,eqlT k4,cond_true,lssF (by omega),cond_false,geqF (by omega),cond_false,h3]
    ·refine⟨false,fun K=>?_,fun h=>by cases h⟩
     dsimp only
     rw [h1,neqF c1,p112_3,cond_false,eqlT k4,cond_true]
     by_cases n0:n < 0
     ·rw [lssT n0,cond_true,h3t]
     ·rw [lssF (by omega),cond_false,geqT (by omega),cond_true,h3t]
   ·by_cases n0:n=0
    ·refine⟨b,fun K=>?_,fun hb=>⟨.inr ⟨hkk.1,by omega,n0,?_⟩,fun x hx=>g2 hb x (by simpa using hx)⟩⟩
     ·dsimp only
      rw [h1,neqF c1,p112_3,cond_false,eqlF k4,cond_false,neqF n0,h3]
     ·have:=hkk.2.2;rw [if_neg k4] at this;omega
    ·refine⟨false,fun K=>?_,fun h=>by cases h⟩
     dsimp only
     rw [h1,neqF c1,p112_3,cond_false,eqlF k4,cond_false,neqT n0,h3t]
  ·refine⟨false,fun K=>?_,fun h=>by cases h⟩
   dsimp only
   rw [h1,neqT c1,p112_3,cond_true]
theorem Lv.partss_cons (a:Lv) (l:List Lv):Lv.partss (a :: l)=a.parts + Lv.partss l:=rfl
theorem w8n {ρ:Type} (fail:ρ):∀ (most:Nat),most≤64→∀ (fu:Nat) (l:Lv),most + 80≤fu→∃ n:Nat,(∀ K:Int→ρ,p111 fail fu K l.k l.n (Lv.rows l.args) (most:Nat)=K (n:Nat))∧1≤n∧n≤most + 1∧(n≤most→l.parts=n):=by
 intro most
 induction most using Nat.strongRecOn with
 | ind most ih =>
  intro hm fu l hf
  obtain⟨k,n0,l⟩:=l
  obtain⟨m,rfl⟩:∃ m,fu=m + 1:=⟨fu - 1,by omega⟩
  simp only [Lv.k,Lv.n,Lv.args]
  generalize hs:p111 fail m=sf
  have hmost1:z0d .add .i64 ((most:Nat):Int) 1=((most + 1:Nat):Int):=by rw [addZ (by omega) (by omega)];omega
  have loop:∀ (r i j n:Nat),i≤l.length→most + 2≤n + r→r < j→1≤n→n≤most + 1→i + 1≤n→∃ q:Nat,(∀ K:Int→ρ,p111_2L fail m sf K (Lv.rows l) ((most:Nat):Int) j ((n:Nat):Int) ((i:Nat):Int)=K ((q:Nat):Int))∧n≤q∧q≤most + 1∧(q≤most→q=n + Lv.partss (l.drop i)):=by
   intro r
   induction r with
   | zero =>
    intro i j n hi hr hj hn1 hn2 _
    omega
   | succ r ihr =>
    intro i j n hi hr hj hn1 hn2 hi2
    obtain⟨j,rfl⟩:∃ j',j=j' + 1:=⟨j - 1,by omega⟩
    have hend:∀ K:Int→ρ,p111_1 fail m sf K (p111_2L fail m sf K (Lv.rows l) ((most:Nat):Int) j) (Lv.rows l) ((most:Nat):Int) ((n:Nat):Int) ((i:Nat):Int) false=K ((n:Nat):Int):=fun K=>by
     rw [p111_1,cond_false,hmost1,if_neg (by omega)]
    by_cases hlt:i < l.length
    ·by_cases hnm:n≤most
     ·have hdr:l.drop i=l[i] :: l.drop (i + 1):=List.drop_eq_getElem_cons hlt
      obtain⟨y,hy,y1,y2,y3⟩:=ih (most - n) (by omega) (by omega) m l[i] (by omega)
      rw [hs] at hy
      have h2:∀ K:Int→ρ,p111_2L fail m sf K (Lv.rows l) ((most:Nat):Int) (j + 1) ((n:Nat):Int) ((i:Nat):Int)=p111_2L fail m sf K (Lv.rows l) ((most:Nat):Int) j ((n + y:Nat):Int) ((i + 1:Nat):Int):=fun K=>by
       rw [p111_2L,p111_2,Lv.rows_len,lssT (by omega),cond_true,leqT (by omega),p111_1,cond_true,gd_y (by omega),gd_y (by rw [Lv.rows_len];omega),z4p fail l i hlt,subZ (by omega) (by omega),show ((most:Nat):Int) - ((n:Nat):Int)=((most - n:Nat):Int) by omega,hy,addZ (by omega) (by omega),addZ (by omega) (by omega),show ((i:Nat):Int) + 1=((i + 1:Nat):Int) by omega,show ((n:Nat):Int) + ((y:Nat):Int)=((n + y:Nat):Int) by omega]
      obtain⟨q,g1,g2,g3,g4⟩:=ihr (i + 1) j (n + y) (by omega) (by omega) (by omega) (by omega) (by omega) (by omega)
      refine⟨q,fun K=>(h2 K).trans (g1 K),by omega,g3,fun hq=>?_⟩
      have h5:=y3 (by omega)
      have h6:=g4 hq
      rw [hdr,Lv.partss_cons];omega
     ·refine⟨n,fun K=>?_,Nat.le_refl _,hn2,fun h=>absurd h hnm⟩
      rw [p111_2L,p111_2,Lv.rows_len,lssT (by omega),cond_true,leqF (by omega)];exact hend K
    ·refine⟨n,fun K=>?_,Nat.le_refl _,hn2,fun _=>?_⟩
     ·rw [p111_2L,p111_2,Lv.rows_len,lssF (by omega),cond_false];exact hend K
     ·rw [List.drop_eq_nil_of_le (by omega)];rfl
  obtain⟨q,g1,g2,g3,g4⟩:=loop (most + 1) 0 m 1 (by omega) (by omega) (by omega) (by omega) (by omega) (by omega)
  refine⟨q,fun K=>?_,g2,g3,fun h=>?_⟩
  ·rw [p111,p111_b,hs];exact g1 K
  ·have:=g4 h;rw [List.drop_zero] at this;simp only [Lv.parts];omega
theorem lmay {ρ:Type} (fail:ρ) (fu:Nat) (hf:200≤fu) (l:Lv):BO (fun K:Bool→ρ=>p69 fail fu K l.k l.n (Lv.rows l.args) 4) (l.good 32∧l.parts≤64):=by
 obtain⟨n,h1,h2,h3,h4⟩:=w8n fail 64 (by omega) fu l (by omega)
 obtain⟨b,g1,g2⟩:=w6t fail 32 (by omega) fu l (by omega)
 dsimp only at g1
 have hm:∀ K:Bool→ρ,p69 fail fu K l.k l.n (Lv.rows l.args) 4=p111 fail fu (fun y2=>bif (z0a .leq y2 64) then (p112 fail fu (fun y3=>p69_1 fail fu K y3) l.k l.n (Lv.rows l.args) 4 1) else (p69_1 fail fu K false)) l.k l.n (Lv.rows l.args) 64:=fun K=>rfl
 by_cases c:n≤64
 ·refine⟨b,fun K=>?_,fun hb=>⟨g2 hb,by have:=h4 c;omega⟩⟩
  dsimp only
  rw [hm,show (64:Int)=((64:Nat):Int) from rfl,h1,leqT (by omega),cond_true,show (1:Int)=((33 - 32:Nat):Int) from rfl,g1,p69_1]
 ·refine⟨false,fun K=>?_,fun h=>by cases h⟩
  dsimp only
  rw [hm,show (64:Int)=((64:Nat):Int) from rfl,h1,leqF (by omega),cond_false,p69_1]
theorem w6s {ρ:Type} (fail:ρ):∀ (d:Nat),d≤100→∀ (fu:Nat) (t:Tm),d + 220≤fu→t.whole→t.dep d→BO (fun K:Bool→ρ=>p61 fail fu K t.k t.n t.nm (Lv.rows t.ls) (Tm.rows t.args)) (∃ P:Tm→Prop,P t∧∀ u,P u→u.ls.length≤4∧(∀ l ∈ u.ls,l.good 32∧l.parts≤64)∧∀ v ∈ u.args,P v):=by
 intro d
 induction d with
 | zero=>intro _ fu t _ _ hd;exact hd.elim
 | succ d ih =>
  intro hd fu t hf hw hdep
  obtain⟨k,n,s,l,a⟩:=t
  obtain⟨m,rfl⟩:∃ m,fu=m + 1:=⟨fu - 1,by omega⟩
  simp only [Tm.k,Tm.n,Tm.nm,Tm.ls,Tm.args]
  have ha3:=z3y hw.1
  generalize hs:p61 fail m=sf
  by_cases c4:l.length≤4
  ·have loopA:∀ (r i j:Nat),i + r=a.length→r < j→BO (fun K:Bool→ρ=>p61_1L fail m sf K (Tm.rows a) j ((i:Nat):Int)) (∀ v ∈ a.drop i,∃ P:Tm→Prop,P v∧∀ u,P u→u.ls.length≤4∧(∀ l ∈ u.ls,l.good 32∧l.parts≤64)∧∀ v ∈ u.args,P v):=by
    intro r
    induction r with
    | zero =>
     intro i j hi hj
     obtain⟨j,rfl⟩:∃ j',j=j' + 1:=⟨j - 1,by omega⟩
     refine⟨true,fun K=>?_,fun _ x hx=>?_⟩
     ·dsimp only;rw [p61_1L,p61_1,Tm.rows_len,lssF (by omega),cond_false]
     ·rw [List.drop_eq_nil_of_le (by omega)] at hx;simp at hx
    | succ r ihr =>
     intro i j hi hj
     obtain⟨j,rfl⟩:∃ j',j=j' + 1:=⟨j - 1,by omega⟩
     have hlt:i < a.length:=by omega
     have hdr:a.drop i=a[i] :: a.drop (i + 1):=List.drop_eq_getElem_cons hlt
     obtain⟨b,hb,hb2⟩:=ih (by omega) m a[i] (by omega) (Tm.wholes_mem hw.2 (List.getElem_mem hlt)) (hdep _ (List.getElem_mem hlt))
     dsimp only at hb
     rw [hs] at hb
     have h2:∀ K:Bool→ρ,p61_1L fail m sf K (Tm.rows a) (j + 1) ((i:Nat):Int)=bif (!b) then K false else p61_1L fail m sf K (Tm.rows a) j ((i + 1:Nat):Int):=fun K=>by
      rw [p61_1L,p61_1,Tm.rows_len,lssT (by omega),cond_true,gd_y (by omega),gd_y (by omega),z4i fail a i hlt,hb,addZ (by omega) (by omega),show ((i:Nat):Int) + 1=((i + 1:Nat):Int) by omega]
     cases b with
     | false=>exact⟨false,fun K=>h2 K,fun h=>by cases h⟩
     | true =>
      obtain⟨b',g1,g2⟩:=ihr (i + 1) j (by omega) (by omega)
      refine⟨b',fun K=>(h2 K).trans (g1 K),fun hb' x hx=>?_⟩
      rw [hdr] at hx
      rcases List.mem_cons.1 hx with rfl | hx
      ·exact hb2 rfl
      ·exact g2 hb' x hx
   obtain⟨bA,gA1,gA2⟩:=loopA a.length 0 m (by omega) (by omega)
   dsimp only at gA1
   have loopL:∀ (r i j:Nat),i + r=l.length→r < j→BO (fun K:Bool→ρ=>p61_2L fail m sf K (Lv.rows l) (Tm.rows a) j ((i:Nat):Int)) ((∀ x ∈ l.drop i,x.good 32∧x.parts≤64)∧bA=true):=by
    intro r
    induction r with
    | zero =>
     intro i j hi hj
     obtain⟨j,rfl⟩:∃ j',j=j' + 1:=⟨j - 1,by omega⟩
     refine⟨bA,fun K=>?_,fun h=>⟨fun x hx=>?_,h⟩⟩
     ·dsimp only;rw [p61_2L,p61_2,Lv.rows_len,lssF (by omega),cond_false];exact gA1 K
     ·rw [List.drop_eq_nil_of_le (by omega)] at hx;simp at hx
    | succ r ihr =>
     intro i j hi hj
     obtain⟨j,rfl⟩:∃ j',j=j' + 1:=⟨j - 1,by omega⟩
     have hlt:i < l.length:=by omega
     have hdr:l.drop i=l[i] :: l.drop (i + 1):=List.drop_eq_getElem_cons hlt
     obtain⟨b,hb,hb2⟩:=lmay fail m (by omega) l[i]
     dsimp only at hb
     have h2:∀ K:Bool→ρ,p61_2L fail m sf K (Lv.rows l) (Tm.rows a) (j + 1) ((i:Nat):Int)=bif (!b) then K false else p61_2L fail m sf K (Lv.rows l) (Tm.rows a) j ((i + 1:Nat):Int):=fun K=>by
      rw [p61_2L,p61_2,Lv.rows_len,lssT (by omega),cond_true,gd_y (by omega),gd_y (by omega),z4p fail l i hlt,hb,addZ (by omega) (by omega),show ((i:Nat):Int) + 1=((i + 1:Nat):Int) by omega]
     cases b with
     | false=>exact⟨false,fun K=>h2 K,fun h=>by cases h⟩
     | true =>
      obtain⟨b',g1,g2⟩:=ihr (i + 1) j (by omega) (by omega)
      refine⟨b',fun K=>(h2 K).trans (g1 K),fun hb'=>⟨fun x hx=>?_,(g2 hb').2⟩⟩
      rw [hdr] at hx
      rcases List.mem_cons.1 hx with rfl | hx
      ·exact hb2 rfl
      ·exact (g2 hb').1 x hx
   obtain⟨b,g1,g2⟩:=loopL l.length 0 m (by omega) (by omega)
   dsimp only at g1
   refine⟨b,fun K=>?_,fun hb=>?_⟩
   ·dsimp only
    rw [p61,p61_b,hs,Lv.rows_len,gtrF (by omega),cond_false];exact g1 K
   ·obtain⟨q1,q2⟩:=g2 hb
    have q3:=gA2 q2
    refine⟨fun u=>u=.mk k n s l a∨∃ v ∈ a,∃ P:Tm→Prop,P v∧(∀ u,P u→u.ls.length≤4∧(∀ l ∈ u.ls,l.good 32∧l.parts≤64)∧∀ v ∈ u.args,P v)∧P u,.inl rfl,?_⟩
    rintro u (rfl | ⟨v,hv,P,hP1,hP2,hP3⟩)
    ·refine⟨c4,fun x hx=>q1 x (by simpa using hx),fun v hv=>?_⟩
     obtain⟨P,p1,p2⟩:=q3 v (by simpa using hv)
     exact .inr ⟨v,hv,P,p1,p2,p1⟩
    ·obtain⟨r1,r2,r3⟩:=hP2 u hP3
     exact⟨r1,r2,fun w hw=>.inr ⟨v,hv,P,hP1,hP2,r3 w hw⟩⟩
  ·refine⟨false,fun K=>?_,fun h=>by cases h⟩
   dsimp only
   rw [p61,p61_b,Lv.rows_len,gtrT (by omega),cond_true]
theorem w8s {ρ:Type} (fail:ρ):∀ (d:Nat),d≤100→∀ (fu:Nat) (t:Tm),d + 20≤fu→t.whole→t.dep d→BO (fun K:Bool→ρ=>p62 fail fu K t.k t.n t.nm (Lv.rows t.ls) (Tm.rows t.args)) (∃ P:Tm→Prop,P t∧∀ u,P u→u.nm.size≤24∧∀ v ∈ u.args,P v):=by
 intro d
 induction d with
 | zero=>intro _ fu t _ _ hd;exact hd.elim
 | succ d ih =>
  intro hd fu t hf hw hdep
  obtain⟨k,n,s,l,a⟩:=t
  obtain⟨m,rfl⟩:∃ m,fu=m + 1:=⟨fu - 1,by omega⟩
  simp only [Tm.k,Tm.n,Tm.nm,Tm.ls,Tm.args]
  have ha3:=z3y hw.1
  generalize hs:p62 fail m=sf
  by_cases c4:s.size≤24
  ·have loopA:∀ (r i j:Nat),i + r=a.length→r < j→BO (fun K:Bool→ρ=>p62_1L fail m sf K (Tm.rows a) j ((i:Nat):Int)) (∀ v ∈ a.drop i,∃ P:Tm→Prop,P v∧∀ u,P u→u.nm.size≤24∧∀ v ∈ u.args,P v):=by
    intro r
    induction r with
    | zero =>
     intro i j hi hj
     obtain⟨j,rfl⟩:∃ j',j=j' + 1:=⟨j - 1,by omega⟩
     refine⟨true,fun K=>?_,fun _ x hx=>?_⟩
     ·dsimp only;rw [p62_1L,p62_1,Tm.rows_len,lssF (by omega),cond_false]
     ·rw [List.drop_eq_nil_of_le (by omega)] at hx;simp at hx
    | succ r ihr =>
     intro i j hi hj
     obtain⟨j,rfl⟩:∃ j',j=j' + 1:=⟨j - 1,by omega⟩
     have hlt:i < a.length:=by omega
     have hdr:a.drop i=a[i] :: a.drop (i + 1):=List.drop_eq_getElem_cons hlt
     obtain⟨b,hb,hb2⟩:=ih (by omega) m a[i] (by omega) (Tm.wholes_mem hw.2 (List.getElem_mem hlt)) (hdep _ (List.getElem_mem hlt))
     dsimp only at hb
     rw [hs] at hb
     have h2:∀ K:Bool→ρ,p62_1L fail m sf K (Tm.rows a) (j + 1) ((i:Nat):Int)=bif (!b) then K false else p62_1L fail m sf K (Tm.rows a) j ((i + 1:Nat):Int):=fun K=>by
      rw [p62_1L,p62_1,Tm.rows_len,lssT (by omega),cond_true,gd_y (by omega),gd_y (by omega),z4i fail a i hlt,hb,addZ (by omega) (by omega),show ((i:Nat):Int) + 1=((i + 1:Nat):Int) by omega]
     cases b with
     | false=>exact⟨false,fun K=>h2 K,fun h=>by cases h⟩
     | true =>
      obtain⟨b',g1,g2⟩:=ihr (i + 1) j (by omega) (by omega)
      refine⟨b',fun K=>(h2 K).trans (g1 K),fun hb' x hx=>?_⟩
      rw [hdr] at hx
      rcases List.mem_cons.1 hx with rfl | hx
      ·exact hb2 rfl
      ·exact g2 hb' x hx
   obtain⟨b,g1,g2⟩:=loopA a.length 0 m (by omega) (by omega)
   dsimp only at g1
   refine⟨b,fun K=>?_,fun hb=>?_⟩
   ·dsimp only
    rw [p62,p62_b,hs,gtrF (by omega),cond_false];exact g1 K
   ·have q3:=g2 hb
    refine⟨fun u=>u=.mk k n s l a∨∃ v ∈ a,∃ P:Tm→Prop,P v∧(∀ u,P u→u.nm.size≤24∧∀ v ∈ u.args,P v)∧P u,.inl rfl,?_⟩
    rintro u (rfl | ⟨v,hv,P,hP1,hP2,hP3⟩)
    ·refine⟨c4,fun v hv=>?_⟩
     obtain⟨P,p1,p2⟩:=q3 v (by simpa using hv)
     exact .inr ⟨v,hv,P,p1,p2,p1⟩
    ·obtain⟨r1,r3⟩:=hP2 u hP3
     exact⟨r1,fun w hw=>.inr ⟨v,hv,P,hP1,hP2,r3 w hw⟩⟩
  ·refine⟨false,fun K=>?_,fun h=>by cases h⟩
   dsimp only
   rw [p62,p62_b,gtrT (by omega),cond_true]
theorem w9b {P Q:Tm→Prop} (hP:∀ u,P u→u.ls.length≤4∧(∀ l ∈ u.ls,l.good 32∧l.parts≤64)∧∀ v ∈ u.args,P v) (hQ:∀ u,Q u→u.nm.size≤24∧∀ v ∈ u.args,Q v):∀ (d:Nat) (t:Tm),t.whole→t.dep d→P t→Q t→t.good d
 | 0,_,_,h,_,_=>h
 | d + 1,.mk k n s l a,hw,hd,hp,hq=>by
  obtain⟨p1,p2,p3⟩:=hP _ hp
  obtain⟨q1,q2⟩:=hQ _ hq
  refine⟨?_,p2,fun b hb=>w9b hP hQ d b (Tm.wholes_mem hw.2 hb) (hd b hb) (p3 b hb) (q2 b hb)⟩
  rcases hw.1 with ⟨h1,h2,h3,h4,h5,h6⟩ | ⟨h1,h2,h3,h4,h5⟩ | ⟨h1,h2,h3⟩ | ⟨h1,h2,h3,h4,h5,h6⟩
  ·exact .inl ⟨h1,h2,h3,h4,List.length_eq_zero_iff.1 h5,List.length_eq_zero_iff.1 h6⟩
  ·exact .inr (.inl ⟨h1,h2,h3,h4,List.length_eq_zero_iff.1 h5⟩)
  ·exact .inr (.inr (.inl ⟨h1,h2,q1,p1,List.length_eq_zero_iff.1 h3⟩))
  ·exact .inr (.inr (.inr ⟨h1,h2,h3,h4,List.length_eq_zero_iff.1 h5,h6⟩))
theorem z9p {ρ:Type} (fail:ρ) (fu:Nat) (hf:3000≤fu) (t:Tm):BO (fun K:Bool→ρ=>p16 fail fu K t.k t.n t.nm (Lv.rows t.ls) (Tm.rows t.args)) (t.good 100∧t.parts≤2000):=by
 obtain⟨w,hw,hw2⟩:=w7e fail 2000 (by omega) fu t (by omega)
 have e2000:(2000:Int)=((2000:Nat):Int):=rfl
 have e100:(100:Int)=((100:Nat):Int):=rfl
 cases w with
 | none =>
  refine⟨false,fun K=>?_,fun h=>by cases h⟩
  dsimp only
  rw [p16,e2000,hw,cond_false,p16_1]
 | some q =>
  obtain⟨g1,g2⟩:=hw2 q rfl
  obtain⟨d,h1,h2,h3⟩:=w9k fail 100 (by omega) fu t (by omega) g2
  by_cases c:d≤100
  ·obtain⟨b,hb,hb2⟩:=w6s fail 100 (by omega) fu t (by omega) g2 (h3 c)
   obtain⟨b',hb',hb2'⟩:=w8s fail 100 (by omega) fu t (by omega) g2 (h3 c)
   dsimp only at hb hb'
   cases b with
   | false =>
    refine⟨false,fun K=>?_,fun h=>by cases h⟩
    dsimp only
    rw [p16,e2000,hw]
    dsimp only
    rw [cond_true,e100,h1,leqT (by omega),cond_true,hb,cond_false,p16_1]
   | true =>
    refine⟨b',fun K=>?_,fun h=>?_⟩
    ·dsimp only
     rw [p16,e2000,hw]
     dsimp only
     rw [cond_true,e100,h1,leqT (by omega),cond_true,hb,cond_true,hb',p16_1]
    ·obtain⟨P,p1,p2⟩:=hb2 rfl
     obtain⟨Q,q1,q2⟩:=hb2' h
     exact⟨w9b p2 q2 100 t g2 (h3 c) p1 q1,by omega⟩
  ·refine⟨false,fun K=>?_,fun h=>by cases h⟩
   dsimp only
   rw [p16,e2000,hw]
   dsimp only
   rw [cond_true,e100,h1,leqF (by omega),cond_false,p16_1]
mutual
theorem Lv.sz_parts:∀ l:Lv,l.sz + 1=2 * l.parts
 | .mk k n l=>by have:=Lv.szs_parts l;simp only [Lv.sz,Lv.parts];omega
theorem Lv.szs_parts:∀ l:List Lv,Lv.szs l=2 * Lv.partss l
 | []=>rfl
 | a :: l=>by have:=Lv.sz_parts a;have h2:=Lv.szs_parts l;simp only [Lv.szs,Lv.partss];omega
end
theorem w2i:∀ (l:List Lv),(∀ b ∈ l,Lv.good 32 b∧b.parts≤64)→Lv.szs l≤128 * l.length
 | [],_=>Nat.le_refl _
 | a :: l,h=>by
  have h1:=(h a (by simp)).2
  have h2:=Lv.sz_parts a
  have h3:=w2i l fun b hb=>h b (by simp [hb])
  simp only [Lv.szs,List.length_cons];omega
theorem w7s {d:Nat} (hd:∀ t:Tm,t.good d→t.sz + 1≤600 * t.parts):∀ (a:List Tm),(∀ b ∈ a,Tm.good d b)→Tm.szs a≤600 * Tm.partss a
 | [],_=>Nat.le_refl _
 | b :: a,h=>by
  have h1:=hd b (h b (by simp))
  have h2:=w7s hd a fun c hc=>h c (by simp [hc])
  simp only [Tm.szs,Tm.partss];omega
theorem z8n:∀ (d:Nat) (t:Tm),t.good d→t.sz + 1≤600 * t.parts
 | 0,_,h=>h.elim
 | d + 1,.mk k n s l a,h=>by
  obtain⟨hk,hl,ha⟩:=h
  have h1:=w2i l hl
  have h2:=w7s (z8n d) a ha
  simp only [Tm.sz,Tm.parts]
  have h3:s.size≤24∧l.length≤4:=by
   rcases hk with ⟨_,_,_,h,h',_⟩ | ⟨_,_,h,h',_⟩ | ⟨_,_,h,h',_⟩ | ⟨_,_,_,h,h',_⟩
   ·rw [h'];exact⟨by omega,Nat.zero_le _⟩
   ·omega
   ·omega
   ·rw [h'];exact⟨by omega,Nat.zero_le _⟩
  omega
def p76_1 {ρ:Type} (fail:ρ) (fu:Nat) (K0:Int→Int→Int→ByteArray→ByteArray→Int→Int→ByteArray→EL→EL→Int→Int→ByteArray→EL→EL→EL→EL→Int→ρ) (rec1:EL→Int→EL→Int→ρ) (z46:EL) (z47:Int) (s51:ByteArray) (j52:EL) (j53 j54 j55:Int) (j56:ByteArray) (j57 j58:EL):ρ :=
 gd (1≤[[(CV.v (.string s51)),(CV.v (.int .i64 j54)),(CV.v (.int .i64 j55)),(CV.v (.string j56)),(CV.sl 3 j57 none),(CV.sl 5 j58 none)]].length) fail (gd ((z46.length + (List.take 1 [[(CV.v (.string s51)),(CV.v (.int .i64 j54)),(CV.v (.int .i64 j55)),(CV.v (.string j56)),(CV.sl 3 j57 none),(CV.sl 5 j58 none)]]).length) * 96≤35184372088832) fail (rec1 j52 j53 (z46++(List.take 1 [[(CV.v (.string s51)),(CV.v (.int .i64 j54)),(CV.v (.int .i64 j55)),(CV.v (.string j56)),(CV.sl 3 j57 none),(CV.sl 5 j58 none)]])) (z0d .add .i64 z47 1)))
def p76_2 {ρ:Type} (fail:ρ) (fu:Nat) (K0:Int→Int→Int→ByteArray→ByteArray→Int→Int→ByteArray→EL→EL→Int→Int→ByteArray→EL→EL→EL→EL→Int→ρ) (rec1:EL→Int→EL→Int→ρ) (y1 y4 y7:Int) (s13 s17:ByteArray) (j20 j21:Int) (j22:ByteArray) (j23 j24:EL) (j34 j35:Int) (j36:ByteArray) (j37 j38:EL) (y39:Int) (z44:EL) (z45:Int) (z46:EL) (z47:Int):ρ :=
 bif (z0a .lss z47 y39) then (bif (z0a .neq z45 0) then (K0 y1 y4 y7 s13 s17 j20 j21 j22 j23 j24 j34 j35 j36 j37 j38 z46 z44 z45) else (p95 fail fu (fun y48 y49 y50=>tobP fail y48 (fun s51=>bif (z0a .eql y50 0) then (p65 fail fu (fun y59 y60 y61 y62 y63 y64 y65=>p76_1 fail fu K0 rec1 z46 z47 s51 y64 y65 y59 y60 y61 y62 y63) y49 y50) else (p76_1 fail fu K0 rec1 z46 z47 s51 y49 y50 0 0 ⟨#[]⟩ nilE nilE))) z44 z45 24)) else (K0 y1 y4 y7 s13 s17 j20 j21 j22 j23 j24 j34 j35 j36 j37 j38 z46 z44 z45)
def p76_2L {ρ:Type} (fail:ρ) (fu:Nat) (K0:Int→Int→Int→ByteArray→ByteArray→Int→Int→ByteArray→EL→EL→Int→Int→ByteArray→EL→EL→EL→EL→Int→ρ) (y1 y4 y7:Int) (s13 s17:ByteArray) (j20 j21:Int) (j22:ByteArray) (j23 j24:EL) (j34 j35:Int) (j36:ByteArray) (j37 j38:EL) (y39:Int):Nat→EL→Int→EL→Int→ρ
 | 0,_,_,_,_=>fail
 | n + 1,z44,z45,z46,z47=>p76_2 fail fu K0 (p76_2L fail fu K0 y1 y4 y7 s13 s17 j20 j21 j22 j23 j24 j34 j35 j36 j37 j38 y39 n) y1 y4 y7 s13 s17 j20 j21 j22 j23 j24 j34 j35 j36 j37 j38 y39 z44 z45 z46 z47
def p76_3 {ρ:Type} (fail:ρ) (fu:Nat) (K0:Int→Int→Int→ByteArray→ByteArray→Int→Int→ByteArray→EL→EL→Int→Int→ByteArray→EL→EL→EL→EL→Int→ρ) (y1 y4 y7:Int) (s13 s17:ByteArray) (j20 j21:Int) (j22:ByteArray) (j23 j24:EL) (j34 j35:Int) (j36:ByteArray) (j37 j38:EL) (y39:Int) (j42:EL) (j43:Int):ρ :=
 p76_2L fail fu K0 y1 y4 y7 s13 s17 j20 j21 j22 j23 j24 j34 j35 j36 j37 j38 y39 fu j42 j43 nilE 0
def p76_4 {ρ:Type} (fail:ρ) (fu:Nat) (K0:Int→Int→Int→ByteArray→ByteArray→Int→Int→ByteArray→EL→EL→Int→Int→ByteArray→EL→EL→EL→EL→Int→ρ) (y1 y4 y7:Int) (s13 s17:ByteArray) (j20 j21:Int) (j22:ByteArray) (j23 j24 j32:EL) (j33 j34 j35:Int) (j36:ByteArray) (j37 j38:EL):ρ :=
 p91 fail fu (fun y39 y40 y41=>bif (z0a .gtr y39 5) then (p94 fail fu (fun y66 y67=>p76_3 fail fu K0 y1 y4 y7 s13 s17 j20 j21 j22 j23 j24 j34 j35 j36 j37 j38 y39 y66 y67) y40 y41 3) else (p76_3 fail fu K0 y1 y4 y7 s13 s17 j20 j21 j22 j23 j24 j34 j35 j36 j37 j38 y39 y40 y41)) j32 j33
def p76_5 {ρ:Type} (fail:ρ) (fu:Nat) (K0:Int→Int→Int→ByteArray→ByteArray→Int→Int→ByteArray→EL→EL→Int→Int→ByteArray→EL→EL→EL→EL→Int→ρ) (y1 y4 y7:Int) (s13 s17:ByteArray) (j20 j21:Int) (j22:ByteArray) (j23 j24 j29:EL) (j30:Int) (j31:Bool):ρ :=
 bif j31 then (p65 fail fu (fun y68 y69 y70 y71 y72 y73 y74=>p76_4 fail fu K0 y1 y4 y7 s13 s17 j20 j21 j22 j23 j24 y73 y74 y68 y69 y70 y71 y72) j29 j30) else (p76_4 fail fu K0 y1 y4 y7 s13 s17 j20 j21 j22 j23 j24 j29 j30 0 0 ⟨#[]⟩ nilE nilE)
def p76_6 {ρ:Type} (fail:ρ) (fu:Nat) (K0:Int→Int→Int→ByteArray→ByteArray→Int→Int→ByteArray→EL→EL→Int→Int→ByteArray→EL→EL→EL→EL→Int→ρ) (y1 y4 y7:Int) (s13 s17:ByteArray) (j20 j21:Int) (j22:ByteArray) (j23 j24:EL) (y25:Int) (j29:EL) (j30:Int):ρ :=
 bif (z0a .eql j30 0) then (p76_5 fail fu K0 y1 y4 y7 s13 s17 j20 j21 j22 j23 j24 j29 j30 (z0a .eql y25 1)) else (p76_5 fail fu K0 y1 y4 y7 s13 s17 j20 j21 j22 j23 j24 j29 j30 false)
def p76_7 {ρ:Type} (fail:ρ) (fu:Nat) (K0:Int→Int→Int→ByteArray→ByteArray→Int→Int→ByteArray→EL→EL→Int→Int→ByteArray→EL→EL→EL→EL→Int→ρ) (y1 y4 y7:Int) (s13 s17:ByteArray) (j20 j21:Int) (j22:ByteArray) (j23 j24:EL) (y25:Int) (y26:EL) (y27:Int) (j28:Bool):ρ :=
 bif j28 then (p94 fail fu (fun y75 y76=>p76_6 fail fu K0 y1 y4 y7 s13 s17 j20 j21 j22 j23 j24 y25 y75 y76) y26 y27 5) else (p76_6 fail fu K0 y1 y4 y7 s13 s17 j20 j21 j22 j23 j24 y25 y26 y27)
def p76_8 {ρ:Type} (fail:ρ) (fu:Nat) (K0:Int→Int→Int→ByteArray→ByteArray→Int→Int→ByteArray→EL→EL→Int→Int→ByteArray→EL→EL→EL→EL→Int→ρ) (y1 y4 y7:Int) (s13 s17:ByteArray) (j18:EL) (j19 j20 j21:Int) (j22:ByteArray) (j23 j24:EL):ρ :=
 p116 fail fu (fun y25 y26 y27=>bif (z0a .gtr y25 1) then (p76_7 fail fu K0 y1 y4 y7 s13 s17 j20 j21 j22 j23 j24 y25 y26 y27 true) else (p76_7 fail fu K0 y1 y4 y7 s13 s17 j20 j21 j22 j23 j24 y25 y26 y27 (!((z0a .eql y25 1) == (z0a .eql y1 2))))) j18 j19
abbrev DK (ρ:Type):=Int→Int→Int→ByteArray→ByteArray→Int→Int→ByteArray→EL→EL→Int→Int→ByteArray→EL→EL→EL→EL→Int→ρ
section
variable {ρ:Type} (fail:ρ) (fu:Nat) (hfu:200≤fu)
section
variable (y1 y4 y7:Int) (s13 s17:ByteArray) (j20 j21:Int) (j22:ByteArray) (j23 j24:EL)
section
variable (j34 j35:Int) (j36:ByteArray) (j37 j38:EL)
include hfu
end
include hfu
end
end
section
variable {ρ:Type} (fail:ρ) (fu:Nat)
def q6 (K0:DK ρ) (y1 y4 y7:Int) (s13 s17:ByteArray) (B:EL) (e:Int):ρ:=bif (z0a .eql e 0) then (p65 fail fu (fun y77 y78 y79 y80 y81 y82 y83=>p76_8 fail fu K0 y1 y4 y7 s13 s17 y82 y83 y77 y78 y79 y80 y81) B e) else (p76_8 fail fu K0 y1 y4 y7 s13 s17 B e 0 0 ⟨#[]⟩ nilE nilE)
def q5 (K0:DK ρ) (y1 y4 y7:Int) (s13:ByteArray) (B:EL) (e:Int):ρ:=p95 fail fu (fun y14 y15 y16=>tobP fail y14 (fun s17=>q6 fail fu K0 y1 y4 y7 s13 s17 y15 y16)) B e 24
def q4 (K0:DK ρ) (y1 y4 y7:Int) (B:EL) (e:Int):ρ:=p95 fail fu (fun y10 y11 y12=>tobP fail y10 (fun s13=>q5 fail fu K0 y1 y4 y7 s13 y11 y12)) B e 24
def q3 (K0:DK ρ) (y1 y4:Int) (B:EL) (e:Int):ρ:=p91 fail fu (fun y7 y8 y9=>q4 fail fu K0 y1 y4 y7 y8 y9) B e
def q2 (K0:DK ρ) (y1:Int) (B:EL) (e:Int):ρ:=p91 fail fu (fun y4 y5 y6=>q3 fail fu K0 y1 y4 y5 y6) B e
variable (hfu:200≤fu)
include hfu
section
variable (K:DK ρ) (B:EL) (e:Int) (he:e≠0)
include he
end
variable (k:Nat) (hk:k≤5) (bs:List UInt8) (hb:bs.length≤1099511627776)
include hk hb
end
section
variable {ρ:Type} (fail:ρ) (fu:Nat) (hfu:200≤fu) (bs:List UInt8) (hb:bs.length≤1099511627776)
include hfu hb
theorem w3r:(∃ t r,z4m bs=.ok (t,r)∧bs=t.enc++r∧t.sz≤2 * bs.length∧∀ K,p18 fail fu K (encB bs)=K t.k t.n t.nm (Lv.rows t.ls) (Tm.rows t.args) ((t.enc.length:Nat):Int) 0) ∨
  (∃ e,z4m bs=.error e∧e≠0∧∀ K,p18 fail fu K (encB bs)=K 0 0 ⟨#[]⟩ nilE nilE 0 e):=by
 have h:=k2v (ρ:=ρ) fail fu (by omega) bs hb
 cases hr:z4m bs with
 | error e =>
  rw [hr] at h
  obtain⟨he,a,b,c,l,g,B,h⟩:=h
  dsimp only at h
  right
  exact⟨e,rfl,he,fun K=>by rw [p18,h,p66,neqT he,cond_true,cond_true]⟩
 | ok x =>
  obtain⟨l,r⟩:=x
  rw [hr] at h
  simp only [TmO2] at h
  have ho:=w3x hr
  have hs:=w7x hr
  left
  refine⟨l,r,rfl,ho,by omega,fun K=>?_⟩
  have hl:bs.length=l.enc.length + r.length:=by rw [ho,List.length_append]
  rw [p18,h,p66,neqF rfl,cond_false,cond_false,z0g,z0g,subZ (by omega) (by omega)]
  congr 1;omega
end
section
variable {ρ:Type} (fail:ρ) (fu:Nat) (K:EL→ρ) (b:List UInt8)
theorem k1g (hb:b.length≤35184372088832):p63 fail fu K (encB b)=K (encB b):=by
 rw [p63,gd_y (by rfl),gd_y (by rw [z0g];simp;omega)];rfl
theorem w3d (l:Tm) (hf:l.sz + 30≤fu) (hs:l.sz < 1099511627776) (hb:b.length + l.enc.length≤35184372086000):p17 fail fu K (encB b) l.k l.n l.nm (Lv.rows l.ls) (Tm.rows l.args)=K (encB (b++l.enc)):=by
 rw [p17,k1g _ _ _ _ (by omega),k3a fail _ l (Nat.le_refl _) fu _ _ hf hs (by rw [z0g];omega),z1o]
end
mutual
theorem Lv.enc_sz:∀ l:Lv,l.enc.length≤20 * l.sz
 | .mk k n l=>by
  have:=Lv.encs_sz l
  have h1:=z1y (uv_lt k)
  have h2:=z1y (uv_lt n)
  have h3:(if k=4 then varB (uv n) else []).length≤10:=by
   split
   ·exact h2
   ·exact Nat.zero_le _
  simp only [Lv.sz,Lv.enc,List.length_append];omega
theorem Lv.encs_sz:∀ l:List Lv,(Lv.encs l).length≤20 * Lv.szs l
 | []=>Nat.zero_le _
 | a :: l=>by
  have:=Lv.enc_sz a
  have h2:=Lv.encs_sz l
  simp only [Lv.szs,Lv.encs,List.length_append];omega
end
mutual
theorem Tm.enc_sz:∀ t:Tm,t.sz < 1099511627776→t.enc.length≤40 * t.sz
 | .mk k n s l a,h=>by
  simp only [Tm.sz] at h
  have:=Tm.encs_sz a (by omega)
  have h0:=Lv.encs_sz l
  have hl:=Lv.szs_len l
  have h1:=z1y (uv_lt k)
  have h2:=z1y (uv_lt n)
  have h4:=z1y (show s.size < 2 ^ 64 by omega)
  have h5:=z1y (show l.length < 2 ^ 64 by omega)
  have h3:(if k=0 then varB (uv n) else if k=2 then txB s++varB l.length else []).length≤20 + s.size:=by
   split
   ·omega
   ·split
    ·simp only [txB,List.length_append,z3t];omega
    ·simp
  simp only [Tm.sz,Tm.enc,List.length_append];omega
theorem Tm.encs_sz:∀ l:List Tm,Tm.szs l < 1099511627776→(Tm.encs l).length≤40 * Tm.szs l
 | [],_=>Nat.zero_le _
 | a :: l,h=>by
  simp only [Tm.szs] at h
  have:=Tm.enc_sz a (by omega)
  have h2:=Tm.encs_sz l (by omega)
  simp only [Tm.szs,Tm.encs,List.length_append];omega
end
def p13_1 {ρ:Type} (fail:ρ) (fu:Nat) (K0:Bool→ρ) (j27:Bool):ρ :=
 K0 j27
def p13 {ρ:Type} (fail:ρ) (fu:Nat) (K0:Bool→ρ):ρ :=
 p50 fail fu (fun y1 y2 y3=>p49 fail fu (fun y4 y5 y6 y7 y8=>p51 fail fu (fun y9 y10 y11 y12 y13=>p48 fail fu (fun y14 y15 y16 y17 y18=>p17 fail fu (fun y19=>gd (1≤[[(CV.v (.int .u8 9))]].length) fail (gd ((y19.length + (List.take 1 [[(CV.v (.int .u8 9))]]).length) * 1≤35184372088832) fail (p18 fail fu (fun y20 y21 y22 y23 y24 y25 y26=>tobP fail y19 (fun s28=>bif (z2a .eql s28 ⟨#[5,1,0,0,0]⟩) then (bif (z0a .eql y26 0) then (bif (z0a .eql y25 5) then (p19 fail fu (fun y29=>bif y29 then (p26 fail fu (fun y30=>p13_1 fail fu K0 (z0a .eql ((y30.length:Nat):Int) 1)) nilE 0 0 nilE) else (p13_1 fail fu K0 false)) y14 y15 y16 y17 y18 y20 y21 y22 y23 y24) else (p13_1 fail fu K0 false)) else (p13_1 fail fu K0 false)) else (p13_1 fail fu K0 false))) (y19++(List.take 1 [[(CV.v (.int .u8 9))]]))))) nilE y14 y15 y16 y17 y18) y4 y5 y6 y7 y8 y9 y10 y11 y12 y13) 0) y1 y2 y3) 
def p14 {ρ:Type} (fail:ρ) (fu:Nat) (K0:EL→Int→ρ) (x0:EL):ρ :=
 K0 x0 0
def p3_1 {ρ:Type} (fail:ρ) (fu:Nat) (K0:Bool→ρ) (rec2:EL→Int→ρ) (z18:EL) (z19 y25:Int) (j27:Bool):ρ :=
 bif j27 then (K0 false) else (gd ((0:Int)≤y25) fail (gd ((y25:Int)≤(z18.length:Nat)) fail (gd (((z18.length:Nat):Int)≤(z18.length:Nat)) fail (rec2 (List.drop ((y25:Int).toNat) (List.take (((z18.length:Nat):Int).toNat) z18)) (z0d .add .i64 z19 1)))))
def p3_2 {ρ:Type} (fail:ρ) (fu:Nat) (K0:Bool→ρ) (rec2:EL→Int→ρ) (z3 z18:EL) (z19:Int):ρ :=
 bif (z0a .lss z19 ((z3.length:Nat):Int)) then (p18 fail fu (fun y20 y21 y22 y23 y24 y25 y26=>bif (z0a .neq y26 0) then (p3_1 fail fu K0 rec2 z18 z19 y25 true) else (gd ((0:Int)≤z19) fail (gd ((z19:Int) < (z3.length:Nat)) fail (gd (((z19:Int).toNat) + 1≤z3.length) fail (z0i fail (List.getD z3 ((z19:Int).toNat) []) (fun c28 c29 c30 c31 c32=>p19 fail fu (fun y33=>p3_1 fail fu K0 rec2 z18 z19 y25 (!y33)) y20 y21 y22 y23 y24 c28 c29 c30 c31 c32)))))) z18) else (K0 (z0a .eql ((z18.length:Nat):Int) 0))
def p3_2L {ρ:Type} (fail:ρ) (fu:Nat) (K0:Bool→ρ) (z3:EL):Nat→EL→Int→ρ
 | 0,_,_=>fail
 | n + 1,z18,z19=>p3_2 fail fu K0 (p3_2L fail fu K0 z3 n) z3 z18 z19
def p3_3 {ρ:Type} (fail:ρ) (fu:Nat) (K0:Bool→ρ) (rec1:EL→EL→Int→ρ) (x0 z2 z3:EL) (z4:Int):ρ :=
 bif (z0a .lss z4 ((x0.length:Nat):Int)) then (gd ((0:Int)≤z4) fail (gd ((z4:Int) < (x0.length:Nat)) fail (rw_l1 fail (List.getD x0 ((z4:Int).toNat) []) (fun c5=>bif (z0a .gtr ((c5.length:Nat):Int) 40) then (K0 true) else (gd ((0:Int)≤z4) fail (gd ((z4:Int) < (x0.length:Nat)) fail (rw_l1 fail (List.getD x0 ((z4:Int).toNat) []) (fun c6=>p14 fail fu (fun y7 y8=>p15 fail fu (fun y9 y10 y11 y12 y13 y14 y15=>p16 fail fu (fun y16=>bif (!y16) then (K0 true) else (gd (1≤[[(CV.v (.int .i64 y9)),(CV.v (.int .i64 y10)),(CV.v (.string y11)),(CV.sl 3 y12 none),(CV.sl 5 y13 none)]].length) fail (gd ((z3.length + (List.take 1 [[(CV.v (.int .i64 y9)),(CV.v (.int .i64 y10)),(CV.v (.string y11)),(CV.sl 3 y12 none),(CV.sl 5 y13 none)]]).length) * 80≤35184372088832) fail (p17 fail fu (fun y17=>rec1 y17 (z3++(List.take 1 [[(CV.v (.int .i64 y9)),(CV.v (.int .i64 y10)),(CV.v (.string y11)),(CV.sl 3 y12 none),(CV.sl 5 y13 none)]])) (z0d .add .i64 z4 1)) z2 y9 y10 y11 y12 y13)))) y9 y10 y11 y12 y13) y7 y8) c6)))))))) else (p3_2L fail fu K0 z3 fu z2 0)
def p3_3L {ρ:Type} (fail:ρ) (fu:Nat) (K0:Bool→ρ) (x0:EL):Nat→EL→EL→Int→ρ
 | 0,_,_,_=>fail
 | n + 1,z2,z3,z4=>p3_3 fail fu K0 (p3_3L fail fu K0 x0 n) x0 z2 z3 z4
def p3 {ρ:Type} (fail:ρ) (fu:Nat) (K0:Bool→ρ) (x0:EL):ρ :=
 p13 fail fu (fun y1=>bif (!y1) then (K0 false) else (bif (z0a .gtr ((x0.length:Nat):Int) 6) then (K0 true) else (p3_3L fail fu K0 x0 fu nilE nilE 0))) 
theorem w9u (m:Nat) (K:Bool→Prop):p13 (ρ:=Prop) False (m + 3000) K=K true:=by kernel_rfl
theorem z8x (m:Nat) (K:Bool→Prop):p13 (ρ:=Prop) False (m + 10000000) K=K true:=w9u (m + 9997000) K
def rowB (b:List UInt8):List CV:=[.sl 1 (encB b) none]
theorem z5t {ρ:Type} (fail:ρ) (l:List (List UInt8)) (i:Nat) (h:i < l.length) (k:EL→ρ):rw_l1 fail (List.getD (l.map rowB) (((i:Nat):Int)).toNat []) k=k (encB l[i]):=by
 rw [Int.toNat_natCast,List.getD_eq_getElem?_getD,List.getElem?_map,List.getElem?_eq_getElem h];rfl
theorem z8q:∀ (a:List Tm) (t:Tm),Tm.encs (a++[t])=Tm.encs a++t.enc
 | [],t=>by rw [List.nil_append,Tm.encs,Tm.encs,Tm.encs,List.append_nil,List.nil_append]
 | x :: a,t=>by rw [List.cons_append,Tm.encs,z8q a t,Tm.encs,List.append_assoc]
theorem w0w:∀ (a:List Tm),(∀ t ∈ a,t.good 100∧t.parts≤2000)→(Tm.encs a).length≤50000000 * a.length
 | [],_=>by simp [Tm.encs]
 | t :: a,h=>by
  have h1:=w0w a fun x hx=>h x (by simp [hx])
  obtain⟨tg,tp⟩:=h t (by simp)
  have ts:=z8n 100 t tg
  have te:=Tm.enc_sz t (by omega)
  rw [Tm.encs,List.length_append,List.length_cons];omega
section
variable (fu:Nat) (hfu:10000000≤fu)
include hfu
theorem k1z (t:Tm) (ht:t.good 100) (hp:t.parts≤2000) (r:List UInt8) (hr:r.length≤1000000000) (K:Int→Int→ByteArray→EL→EL→Int→Int→Prop):p18 False fu K (encB (t.enc++r))=K t.k t.n t.nm (Lv.rows t.ls) (Tm.rows t.args) ((t.enc.length:Nat):Int) 0:=by
 have h1:=z8n 100 t ht
 have h2:=Tm.enc_sz t (by omega)
 have hb:=w3y t ht hp r
 rcases w3r (ρ:=Prop) False fu (by omega) (t.enc++r) (by rw [List.length_append];omega) with ⟨t',r',g1,g2,_,g3⟩ | ⟨e,g1,g2,g3⟩
 ·rw [hb] at g1;injection g1 with g1;injection g1 with q1 q2;subst q1;exact g3 K
 ·rw [hb] at g1;cases g1
theorem w7t (ts:List Tm) (hl:ts.length≤6) (hg:∀ t ∈ ts,t.good 100∧t.parts≤2000):∀ (r j:Nat),j + r=ts.length→∀ n,r < n→p3_2L (ρ:=Prop) False fu (fun y=>y=true) (Tm.rows ts) n (encB (Tm.encs (ts.drop j))) ((j:Nat):Int):=by
 intro r
 induction r with
 | zero =>
  intro j hj n hn
  obtain⟨n,rfl⟩:∃ m,n=m + 1:=⟨n - 1,by omega⟩
  rw [p3_2L,p3_2,Tm.rows_len,lssF (by omega),cond_false,List.drop_of_length_le (by omega),Tm.encs]
  rfl
 | succ r ih =>
  intro j hj n hn
  obtain⟨n,rfl⟩:∃ m,n=m + 1:=⟨n - 1,by omega⟩
  have hlt:j < ts.length:=by omega
  obtain⟨tg,tp⟩:=hg _ (List.getElem_mem hlt)
  have hs:=z8n 100 _ tg
  have he:Tm.encs (ts.drop j)=ts[j].enc++Tm.encs (ts.drop (j + 1)):=by rw [List.drop_eq_getElem_cons hlt,Tm.encs]
  have hlen:=w0w (ts.drop (j + 1)) fun t ht=>hg t (List.mem_of_mem_drop ht)
  rw [List.length_drop] at hlen
  have f2:=fun K=>k1z fu hfu ts[j] tg tp (Tm.encs (ts.drop (j + 1))) (by omega) K
  have s2:=fun K=>k1y (ρ:=Prop) False _ ts[j] (Nat.le_refl _) fu K (by omega) (by omega)
  have hdr:List.drop (((ts[j].enc.length:Nat):Int).toNat) (List.take ((((encB (ts[j].enc++Tm.encs (ts.drop (j + 1)))).length:Nat):Int).toNat) (encB (ts[j].enc++Tm.encs (ts.drop (j + 1)))))=encB (Tm.encs (ts.drop (j + 1))):=by
   rw [Int.toNat_natCast,Int.toNat_natCast,List.take_of_length_le (Nat.le_refl _),w2y,List.drop_left]
  rw [p3_2L,p3_2,Tm.rows_len,lssT (by omega),cond_true,he]
  refine (f2 _).mpr ?_
  rw [neqF rfl,cond_false,gd_y (by omega),gd_y (by omega),gd_y (by rw [Int.toNat_natCast];omega),z4i False ts j hlt,s2,Bool.not_true,p3_1,cond_false,gd_y (by omega),gd_y (by rw [z0g,List.length_append];omega),gd_y (by omega),hdr,addZ (by omega) (by omega),show ((j:Nat):Int) + 1=((j + 1:Nat):Int) by omega]
  exact ih (j + 1) (by omega) n (by omega)
end
theorem w7u (l:List (List UInt8)) (hl:l.length≤6):∀ (r i:Nat) (ts:List Tm),i + r=l.length→ts.length=i→(∀ t ∈ ts,t.good 100∧t.parts≤2000)→∃ N:Nat,∀ fu,N≤fu→10000000≤fu→∀ n,r < n →
  p3_3L (ρ:=Prop) False fu (fun y=>y=true) (l.map rowB) n (encB (Tm.encs ts)) (Tm.rows ts) ((i:Nat):Int):=by
 intro r
 induction r with
 | zero =>
  intro i ts hi ht hg
  refine⟨0,fun fu _ hfu n hn=>?_⟩
  obtain⟨n,rfl⟩:∃ m,n=m + 1:=⟨n - 1,by omega⟩
  rw [p3_3L,p3_3,List.length_map,lssF (by omega),cond_false]
  exact w7t fu hfu ts (by omega) hg ts.length 0 (by omega) fu (by omega)
 | succ r ih =>
  intro i ts hi ht hg
  have hlt:i < l.length:=by omega
  by_cases h40:40 < l[i].length
  ·refine⟨0,fun fu _ hfu n hn=>?_⟩
   obtain⟨n,rfl⟩:∃ m,n=m + 1:=⟨n - 1,by omega⟩
   rw [p3_3L,p3_3,List.length_map,lssT (by omega),cond_true,gd_y (by omega),gd_y (by omega),z5t False l i hlt,z0g,gtrT (by omega),cond_true]
  obtain⟨t,a',hth,_,_,M,hany⟩:=k2u (ρ:=Prop) False l[i] (by omega) 0 (by omega)
  by_cases hgood:t.good 100∧t.parts≤2000
  ·obtain⟨N,hN⟩:=ih (i + 1) (ts++[t]) (by omega) (by simp [ht]) (fun x hx=>by
    rcases List.mem_append.1 hx with hx | hx
    ·exact hg x hx
    ·rw [List.mem_singleton.1 hx];exact hgood)
   refine⟨M + N,fun fu hM hfu n hn=>?_⟩
   obtain⟨n,rfl⟩:∃ m,n=m + 1:=⟨n - 1,by omega⟩
   have hany':=fun K=>hany fu (by omega) K
   obtain⟨c,h2,k2⟩:=z9p (ρ:=Prop) False fu (by omega) t
   dsimp only at h2
   have hs:=z8n 100 t hgood.1
   have he:=Tm.enc_sz t (by omega)
   have hlen:=w0w ts hg
   have e2:=fun K=>w3d (ρ:=Prop) False fu K (Tm.encs ts) t (by omega) (by omega) (by omega)
   rw [p3_3L,p3_3,List.length_map,lssT (by omega),cond_true,gd_y (by omega),gd_y (by omega),z5t False l i hlt,z0g,gtrF (by omega),cond_false,gd_y (by omega),gd_y (by omega),z5t False l i hlt,p14]
   refine (hany' _).mpr ?_
   rw [h2]
   cases c with
   | false=>rw [Bool.not_false,cond_true]
   | true =>
   rw [Bool.not_true,cond_false,gd_y (by simp),z2g,gd_y (by rw [Tm.rows_len,Tm.rows_len];simp;omega)]
   refine (e2 _).mpr ?_
   rw [← z8q,← Tm.rows_append,addZ (by omega) (by omega),show ((i:Nat):Int) + 1=((i + 1:Nat):Int) by omega]
   exact hN fu (by omega) hfu n (by omega)
  ·refine⟨M,fun fu hM hfu n hn=>?_⟩
   obtain⟨n,rfl⟩:∃ m,n=m + 1:=⟨n - 1,by omega⟩
   have hany':=fun K=>hany fu (by omega) K
   obtain⟨c,h2,k2⟩:=z9p (ρ:=Prop) False fu (by omega) t
   dsimp only at h2
   rw [p3_3L,p3_3,List.length_map,lssT (by omega),cond_true,gd_y (by omega),gd_y (by omega),z5t False l i hlt,z0g,gtrF (by omega),cond_false,gd_y (by omega),gd_y (by omega),z5t False l i hlt,p14]
   refine (hany' _).mpr ?_
   rw [h2]
   cases c with
   | false=>rw [Bool.not_false,cond_true]
   | true=>exact absurd (k2 rfl) hgood
theorem z9c (l:List (List UInt8)):∃ fu,p3 (ρ:=Prop) False fu (fun y=>y=true) (l.map rowB):=by
 by_cases h6:6 < l.length
 ·refine⟨0 + 10000000,?_⟩
  rw [p3,z8x,Bool.not_true,cond_false,List.length_map,gtrT (by omega),cond_true]
 obtain⟨N,hN⟩:=w7u l (by omega) l.length 0 [] (by omega) rfl (by simp)
 refine⟨N + 10000000,?_⟩
 have beg:=z8x N
 have h:=hN (N + 10000000) (by omega) (by omega)
 have hfu:10000000≤N + 10000000:=by omega
 generalize N + 10000000=fu at beg h hfu
 rw [p3,beg,Bool.not_true,cond_false,List.length_map,gtrF (by omega),cond_false]
 exact h fu (by omega)
theorem d_p50 (fu:Nat){K0:Int→Int→EL→Prop}(L:EL→Nat)(hN:L=List.length)(h:p50 False fu K0 ):Den Try.prog G0 50 [] (fun r bs=>(∃ (y0 y1:Int) (y2:EL),(r=.agg [.c (.v (.int .i64 y0)),.c (.v (.int .i64 y1)),.c (.sl 3 y2 none)]∧bs=[])∧K0 y0 y1 y2)):=by
 obtain⟨O,hO⟩:∃ O,O=std 0 T G0 (Den Try.prog G0):=⟨_,rfl⟩
 have hLO:L=O.len:=by rw [hN,hO];rfl
 subst hLO
 refine den_h hO tiA mixed tabOk (fn:=Try.f50) (sh:=true) (by kernel_rfl) rfl rfl rfl rfl ?_
 intro Q b
 unfold p50 at h
 conv=>cbv
 rw [b]
 exact⟨0,0,nilE,⟨(by subst hO;rfl),(by subst hO;rfl)⟩,h⟩
def D_p132b (fu:Nat):Prop:=∀ {K0:Int→Int→EL→Prop} (L:EL→Nat) (_:L=List.length) {x0 x1:Int} {x2 x3:EL} (_:p132b False fu K0 x0 x1 x2 x3),Den Try.prog G0 132 [.agg [.c (.v (.int .i64 x0)),.c (.v (.int .i64 x1)),.c (.sl 3 x2 none)],.c (.sl 3 x3 none)] (fun r bs=>(∃ (y0 y1:Int) (y2:EL) (o0 o1:OV),(r=.agg [.c (.v (.int .i64 y0)),.c (.v (.int .i64 y1)),.c (.sl 3 y2 none)]∧bs=[o0,o1])∧K0 y0 y1 y2))
def D_p101 (fu:Nat):Prop:=∀ {K0:Int→Int→EL→Prop} (L:EL→Nat) (_:L=List.length) {x0 x1:Int} {x2:EL} (_:p101 False fu K0 x0 x1 x2),Den Try.prog G0 101 [.agg [.c (.v (.int .i64 x0)),.c (.v (.int .i64 x1)),.c (.sl 3 x2 none)]] (fun r bs=>(∃ (y0 y1:Int) (y2:EL) (o0:OV),(r=.agg [.c (.v (.int .i64 y0)),.c (.v (.int .i64 y1)),.c (.sl 3 y2 none)]∧bs=[o0])∧K0 y0 y1 y2))
theorem b_p132b (fu:Nat)(ih_p132b:D_p132b fu)(ih_p101:D_p101 fu){K0:Int→Int→EL→Prop}(L:EL→Nat)(hN:L=List.length){x0 x1:Int}{x2 x3:EL}(h:p132b_b False fu (p132b False fu) (p101 False fu) K0 x0 x1 x2 x3):Den Try.prog G0 132 [.agg [.c (.v (.int .i64 x0)),.c (.v (.int .i64 x1)),.c (.sl 3 x2 none)],.c (.sl 3 x3 none)] (fun r bs=>(∃ (y0 y1:Int) (y2:EL) (o0 o1:OV),(r=.agg [.c (.v (.int .i64 y0)),.c (.v (.int .i64 y1)),.c (.sl 3 y2 none)]∧bs=[o0,o1])∧K0 y0 y1 y2)):=by
 obtain⟨O,hO⟩:∃ O,O=std 0 T G0 (Den Try.prog G0):=⟨_,rfl⟩
 have hLO:L=O.len:=by rw [hN,hO];rfl
 subst hLO
 refine den_h hO tiA mixed tabOk (fn:=Try.f132) (sh:=true) (by kernel_rfl) rfl rfl rfl rfl ?_
 intro Q b
 unfold p132b_b at h
 conv=>cbv
 refine z0u hO tiA [1,2,4,21] [3000,5000] [] (fun tm m=>∃ (j1:Bool),((tm=frame 0 53 [(1,.c (.sl 3 x3 none)),(2,.p 3000 0 0),(4,.p 5000 0 0),(21,.c (.v (.bool j1)))]∧m=⟨[(3000,.blk 0 [.c (.v (.int .i64 x0)),.c (.v (.int .i64 x1)),.c (.sl 3 x2 none)]),(5000,.blk 0 [.c (.v (.int .i64 0)),.c (.v (.int .i64 0)),.c (.sl 3 [] (some []))])],1⟩))∧p132b_2 False fu (p132b False fu) (p101 False fu) K0 x0 x1 x2 x3 j1) (fun L hL_2=>?_) ?_
 conv=>cbv
 refine br_h hO h (by subst hO;rfl) (fun k3 h=>?_) (fun k3 h=>?_)
 conv=>cbv
 refine br_t hO k3 ?_
 conv=>cbv
 refine br_t hO k3 ?_
 conv=>cbv
 refine br_t hO k3 ?_
 conv=>cbv
 refine br_h hO h (by subst hO;rfl) (fun k4 h=>?_) (fun k4 h=>?_)
 conv=>cbv
 refine br_t hO k4 ?_
 conv=>cbv
 refine br_t hO k4 ?_
 conv=>cbv
 refine br_t hO k4 ?_
 conv=>cbv
 refine br_t hO k4 ?_
 conv=>cbv
 refine br_t hO k4 ?_
 conv=>cbv
 exact hL_2 _ _ ⟨(z0a .lss x1 ((x3.length:Nat):Int)),⟨(by (conv=>lhs;cbv)<;>(subst hO;rfl)),(by (conv=>lhs;cbv)<;>(subst hO;rfl))⟩,h⟩
 conv=>cbv
 refine br_f hO k4 ?_
 conv=>cbv
 refine br_f hO k4 ?_
 conv=>cbv
 refine br_f hO k4 ?_
 conv=>cbv
 refine br_f hO k4 ?_
 conv=>cbv
 refine br_f hO k4 ?_
 conv=>cbv
 exact hL_2 _ _ ⟨false,⟨(by (conv=>lhs;cbv)<;>(subst hO;rfl)),(by (conv=>lhs;cbv)<;>(subst hO;rfl))⟩,h⟩
 conv=>cbv
 refine br_f hO k3 ?_
 conv=>cbv
 refine br_f hO k3 ?_
 conv=>cbv
 refine br_f hO k3 ?_
 conv=>cbv
 refine br_f hO rfl ?_
 conv=>cbv
 refine br_f hO rfl ?_
 conv=>cbv
 refine br_f hO rfl ?_
 conv=>cbv
 refine br_f hO rfl ?_
 conv=>cbv
 refine br_f hO rfl ?_
 conv=>cbv
 refine br_f hO rfl ?_
 conv=>cbv
 exact hL_2 _ _ ⟨false,⟨(by (conv=>lhs;cbv)<;>(subst hO;rfl)),(by (conv=>lhs;cbv)<;>(subst hO;rfl))⟩,h⟩
 rintro tm m ⟨j1,hs,h⟩
 unfold p132b_2 at h
 obtain⟨rfl,rfl⟩:=hs
 conv=>cbv
 refine br_h hO h (by subst hO;rfl) (fun k1 h=>?_) (fun k1 h=>?_)
 conv=>cbv
 refine and_h h (fun g=>(by subst hO;exact g)) (fun h=>?_)
 refine and_h h (fun g=>(by subst hO;exact g)) (fun h=>?_)
 obtain⟨c2,c3,c4,hr,h⟩:=z0j h
 refine z0m hO _ (by subst hO;exact hr) ?_
 clear hr
 conv=>cbv
 refine z0c hO [.shut] (ih_p101 O.len hN h) ?_
 intro e Q a b
 conv=>cbv
 refine⟨by subst a hO;rfl,?_⟩
 intro r bs d
 rw [b] at d
 clear a b h
 obtain⟨y5,y6,y7,_,⟨rfl,rfl⟩,h⟩:=d
 conv=>cbv
 rw [b]
 exact⟨y5,y6,y7,_,_,⟨(by subst hO;rfl),(by subst hO;rfl)⟩,h⟩
 conv=>cbv
 refine z0b hO ?_
 conv=>cbv
 refine z0r hO tiA [1,2,4,5,6] [3000,5000,6000,51000] [] (fun (n:Nat) tm m=>∃ (z8:EL) (z9:Int),((z8=[]∧tm=frame 0 53 [(1,.c (.sl 3 x3 none)),(2,.p 3000 0 0),(4,.p 5000 0 0),(5,.p 6000 0 0),(6,.c (.v (.int .i64 z9)))]∧m=⟨[(3000,.blk 0 [.c (.v (.int .i64 x0)),.c (.v (.int .i64 x1)),.c (.sl 3 x2 none)]),(5000,.blk 0 [.c (.v (.int .i64 0)),.c (.v (.int .i64 0)),.c (.sl 3 [] (some []))]),(6000,.blk 0 [.c (.v (.int .i64 x0)),.c (.v (.int .i64 x1)),.c (.sl 3 [] (some []))])],1⟩)∨(tm=frame 0 53 [(1,.c (.sl 3 x3 none)),(2,.p 3000 0 0),(4,.p 5000 0 0),(5,.p 6000 0 0),(6,.c (.v (.int .i64 z9)))]∧m=⟨[(3000,.blk 0 [.c (.v (.int .i64 x0)),.c (.v (.int .i64 x1)),.c (.sl 3 x2 none)]),(5000,.blk 0 [.c (.v (.int .i64 0)),.c (.v (.int .i64 0)),.c (.sl 3 [] (some []))]),(6000,.blk 0 [.c (.v (.int .i64 x0)),.c (.v (.int .i64 x1)),.t 51000 0 (O.len z8)]),(51000,.arr 0 3 z8 none false)],1⟩))∧p132b_1L False fu (p132b False fu) (p101 False fu) K0 x0 x1 x2 x3 n z8 z9) (fun n=>n) fu ⟨nilE,0,(.inl ⟨rfl,(by (conv=>lhs;cbv)<;>(subst hO;rfl)),(by (conv=>lhs;cbv)<;>(subst hO;rfl))⟩),h⟩ ?_
 rintro n1 tm m L ⟨z8,z9,hs,h⟩ hLn1
 (cases n1 with
 | zero=>rw [p132b_1L] at h;exact h.elim
 | succ n1 =>
 rw [p132b_1L] at h
 unfold p132b_1 at h
 rcases hs with hs | hs
 obtain⟨rfl,rfl,rfl⟩:=hs
 conv=>cbv
 refine br_h hO h (by subst hO;rfl) (fun k2 h=>?_) (fun k2 h=>?_)
 conv=>cbv
 refine z0b hO ?_
 conv=>cbv
 refine z0h hO tiA [[],[],[],[],[]] [(0,true,false),(1,true,false),(2,true,false),(3,true,false),(4,true,false),(5,true,false),(6,true,false),(7,true,false),(8,false,false),(9,false,false),(10,false,true),(11,true,true),(12,false,true)] (by kernel_rfl) ?_
 conv=>cbv
 refine and_h h (fun g=>(by subst hO;exact g)) (fun h=>?_)
 refine and_h h (fun g=>(by subst hO;exact g)) (fun h=>?_)
 obtain⟨c10,c11,c12,hr,h⟩:=z0j h
 refine z0m hO _ (by subst hO;exact hr) ?_
 clear hr
 conv=>cbv
 refine z0c hO [.shut,.shut] (ih_p132b O.len hN h) ?_
 intro e Q a b
 conv=>cbv
 refine⟨by subst a hO;rfl,?_⟩
 intro r bs d
 rw [b] at d
 clear a b h
 obtain⟨y13,y14,y15,_,_,⟨rfl,rfl⟩,h⟩:=d
 conv=>cbv
 refine agr hO rfl rfl ?_
 refine agr hO rfl rfl ?_
 refine z0t hO h (fun g=>(by subst hO;exact g)) (fun h=>?_)
 conv=>cbv
 refine and_h h (fun g=>(by subst hO;exact g)) (fun h=>?_)
 refine z4g hO (by subst hO;exact List.cons_ne_nil _ _) ?_
 conv=>cbv
 refine z0b hO ?_
 conv=>cbv
 exact hLn1 n1 _ _ (Nat.lt_succ_self n1) ⟨(nilE++(List.take 1 [[(CV.v (.int .i64 y13)),(CV.v (.int .i64 y14)),(CV.sl 3 y15 none)]])),z0d .add .i64 z9 1,(.inr ⟨(by (conv=>lhs;cbv)<;>(subst hO;rfl)),(by (conv=>lhs;cbv)<;>(subst hO;rfl))⟩),h⟩
 conv=>cbv
 rw [b]
 exact⟨x0,x1,nilE,_,_,⟨(by subst hO;rfl),(by subst hO;rfl)⟩,h⟩
 obtain⟨rfl,rfl⟩:=hs
 conv=>cbv
 refine br_h hO h (by subst hO;rfl) (fun k2 h=>?_) (fun k2 h=>?_)
 conv=>cbv
 refine z0b hO ?_
 conv=>cbv
 refine z0h hO tiA [[],[],[],[],[]] [(0,true,false),(1,true,false),(2,true,false),(3,true,false),(4,true,false),(5,true,false),(6,true,false),(7,true,false),(8,false,false),(9,false,false),(10,false,true),(11,true,true),(12,false,true)] (by kernel_rfl) ?_
 conv=>cbv
 refine and_h h (fun g=>(by subst hO;exact g)) (fun h=>?_)
 refine and_h h (fun g=>(by subst hO;exact g)) (fun h=>?_)
 obtain⟨c10,c11,c12,hr,h⟩:=z0j h
 refine z0m hO _ (by subst hO;exact hr) ?_
 clear hr
 conv=>cbv
 refine z0c hO [.shut,.shut] (ih_p132b O.len hN h) ?_
 intro e Q a b
 conv=>cbv
 refine⟨by subst a hO;rfl,?_⟩
 intro r bs d
 rw [b] at d
 clear a b h
 obtain⟨y13,y14,y15,_,_,⟨rfl,rfl⟩,h⟩:=d
 conv=>cbv
 refine agr hO rfl rfl ?_
 refine agr hO rfl rfl ?_
 refine z0t hO h (fun g=>(by subst hO;exact g)) (fun h=>?_)
 conv=>cbv
 refine⟨(by subst hO;rfl),?_⟩
 refine and_h h (fun g=>(by subst hO;exact g)) (fun h=>?_)
 refine z0b hO ?_
 conv=>cbv
 exact hLn1 n1 _ _ (Nat.lt_succ_self n1) ⟨(z8++(List.take 1 [[(CV.v (.int .i64 y13)),(CV.v (.int .i64 y14)),(CV.sl 3 y15 none)]])),z0d .add .i64 z9 1,(.inr ⟨(by (conv=>lhs;cbv)<;>(subst hO;rfl)),(by (conv=>lhs;cbv)<;>(subst hO;rfl))⟩),h⟩
 conv=>cbv
 refine z0o hO ?_
 conv=>cbv
 rw [b]
 exact⟨x0,x1,z8,_,_,⟨(by subst hO;rfl),(by subst hO;rfl)⟩,h⟩)
theorem b_p101 (fu:Nat)(ih_p132b:D_p132b fu)(ih_p101:D_p101 fu){K0:Int→Int→EL→Prop}(L:EL→Nat)(hN:L=List.length){x0 x1:Int}{x2:EL}(h:p101_b False fu (p132b False fu) (p101 False fu) K0 x0 x1 x2):Den Try.prog G0 101 [.agg [.c (.v (.int .i64 x0)),.c (.v (.int .i64 x1)),.c (.sl 3 x2 none)]] (fun r bs=>(∃ (y0 y1:Int) (y2:EL) (o0:OV),(r=.agg [.c (.v (.int .i64 y0)),.c (.v (.int .i64 y1)),.c (.sl 3 y2 none)]∧bs=[o0])∧K0 y0 y1 y2)):=by
 obtain⟨O,hO⟩:∃ O,O=std 0 T G0 (Den Try.prog G0):=⟨_,rfl⟩
 have hLO:L=O.len:=by rw [hN,hO];rfl
 subst hLO
 refine den_h hO tiA mixed tabOk (fn:=Try.f101) (sh:=true) (by kernel_rfl) rfl rfl rfl rfl ?_
 intro Q b
 unfold p101_b at h
 conv=>cbv
 refine z0c hO [.shut,.shut] (ih_p132b O.len hN h) ?_
 intro e Q a b
 conv=>cbv
 refine⟨by subst a hO;rfl,?_⟩
 intro r bs d
 rw [b] at d
 clear a b h
 obtain⟨y1,y2,y3,_,_,⟨rfl,rfl⟩,h⟩:=d
 conv=>cbv
 rw [b]
 exact⟨y1,y2,y3,_,⟨(by subst hO;rfl),(by subst hO;rfl)⟩,h⟩
theorem dd_p132b (fu:Nat):D_p132b fu∧D_p101 fu:=by
 induction fu with
 | zero=>exact⟨(by unfold D_p132b;intros;rename_i h;rw [p132b] at h;exact h.elim),(by unfold D_p101;intros;rename_i h;rw [p101] at h;exact h.elim)⟩
 | succ n ih =>
  obtain⟨i0,i1⟩:=ih
  exact⟨(by unfold D_p132b;intro K0 L hN x0 x1 x2 x3 h;exact b_p132b n i0 i1 L hN (by rw [p132b] at h;exact h)),(by unfold D_p101;intro K0 L hN x0 x1 x2 h;exact b_p101 n i0 i1 L hN (by rw [p101] at h;exact h))⟩
theorem d_p101 (fu:Nat):D_p101 fu:=(dd_p132b fu).2
theorem d_p49 (fu:Nat){K0:Int→Int→ByteArray→EL→EL→Prop}(L:EL→Nat)(hN:L=List.length){x0 x1:Int}{x2:EL}(h:p49 False fu K0 x0 x1 x2):Den Try.prog G0 49 [.agg [.c (.v (.int .i64 x0)),.c (.v (.int .i64 x1)),.c (.sl 3 x2 none)]] (fun r bs=>(∃ (y0 y1:Int) (y2:ByteArray) (y3 y4:EL) (o0:OV),(r=.agg [.c (.v (.int .i64 y0)),.c (.v (.int .i64 y1)),.c (.v (.string y2)),.c (.sl 3 y3 none),.c (.sl 5 y4 none)]∧bs=[o0])∧K0 y0 y1 y2 y3 y4)):=by
 obtain⟨O,hO⟩:∃ O,O=std 0 T G0 (Den Try.prog G0):=⟨_,rfl⟩
 have hLO:L=O.len:=by rw [hN,hO];rfl
 subst hLO
 refine den_h hO tiA mixed tabOk (fn:=Try.f49) (sh:=true) (by kernel_rfl) rfl rfl rfl rfl ?_
 intro Q b
 unfold p49 at h
 conv=>cbv
 refine z0c hO [.shut] (d_p101 fu O.len hN h) ?_
 intro e Q a b
 conv=>cbv
 refine⟨by subst a hO;rfl,?_⟩
 intro r bs d
 rw [b] at d
 clear a b h
 obtain⟨y1,y2,y3,_,⟨rfl,rfl⟩,h⟩:=d
 conv=>cbv
 refine z0t hO h (fun g=>(by subst hO;exact g)) (fun h=>?_)
 conv=>cbv
 rw [b]
 exact⟨1,0,⟨#[]⟩,List.take 1 [[(CV.v (.int .i64 y1)),(CV.v (.int .i64 y2)),(CV.sl 3 y3 none)]],nilE,_,⟨(by subst hO;rfl),(by subst hO;rfl)⟩,h⟩
theorem d_p51 (fu:Nat){K0:Int→Int→ByteArray→EL→EL→Prop}(L:EL→Nat)(hN:L=List.length){x0:Int}(h:p51 False fu K0 x0):Den Try.prog G0 51 [.c (.v (.int .i64 x0))] (fun r bs=>(∃ (y0 y1:Int) (y2:ByteArray) (y3 y4:EL) (o0:OV),(r=.agg [.c (.v (.int .i64 y0)),.c (.v (.int .i64 y1)),.c (.v (.string y2)),.c (.sl 3 y3 none),.c (.sl 5 y4 none)]∧bs=[o0])∧K0 y0 y1 y2 y3 y4)):=by
 obtain⟨O,hO⟩:∃ O,O=std 0 T G0 (Den Try.prog G0):=⟨_,rfl⟩
 have hLO:L=O.len:=by rw [hN,hO];rfl
 subst hLO
 refine den_h hO tiA mixed tabOk (fn:=Try.f51) (sh:=true) (by kernel_rfl) rfl rfl rfl rfl ?_
 intro Q b
 unfold p51 at h
 conv=>cbv
 rw [b]
 exact⟨0,x0,⟨#[]⟩,nilE,nilE,_,⟨(by subst hO;rfl),(by subst hO;rfl)⟩,h⟩
theorem d_p135 (fu:Nat){K0:Int→Int→ByteArray→EL→EL→Prop}(L:EL→Nat)(hN:L=List.length){x0 x1:Int}{x2:ByteArray}{x3 x4:EL}(h:p135 False fu K0 x0 x1 x2 x3 x4):Den Try.prog G0 135 [.agg [.c (.v (.int .i64 x0)),.c (.v (.int .i64 x1)),.c (.v (.string x2)),.c (.sl 3 x3 none),.c (.sl 5 x4 none)]] (fun r bs=>(∃ (y0 y1:Int) (y2:ByteArray) (y3 y4:EL) (o0:OV),(y3=[]∧y4=[]∧r=.agg [.c (.v (.int .i64 y0)),.c (.v (.int .i64 y1)),.c (.v (.string y2)),.c (.sl 3 [] (some [])),.c (.sl 5 [] (some []))]∧bs=[o0])∧K0 y0 y1 y2 y3 y4)∨(∃ (y0 y1:Int) (y2:ByteArray) (y3 y4:EL) (o0:OV),(y4=[]∧r=.agg [.c (.v (.int .i64 y0)),.c (.v (.int .i64 y1)),.c (.v (.string y2)),.arr 3 y3 none false (L y3),.c (.sl 5 [] (some []))]∧bs=[o0])∧K0 y0 y1 y2 y3 y4)):=by
 obtain⟨O,hO⟩:∃ O,O=std 0 T G0 (Den Try.prog G0):=⟨_,rfl⟩
 have hLO:L=O.len:=by rw [hN,hO];rfl
 subst hLO
 refine den_h hO tiA mixed tabOk (fn:=Try.f135) (sh:=false) (by kernel_rfl) rfl rfl rfl rfl ?_
 intro Q b
 unfold p135 at h
 conv=>cbv
 refine z0r hO tiA [1,2,3,4] [2000,3000,4000,29000] [] (fun (n:Nat) tm m=>∃ (z1:EL) (z2:Int),((z1=[]∧tm=frame 0 31 [(1,.p 2000 0 0),(2,.p 3000 0 0),(3,.p 4000 0 0),(4,.c (.v (.int .i64 z2)))]∧m=⟨[(2000,.blk 0 [.c (.v (.int .i64 x0)),.c (.v (.int .i64 x1)),.c (.v (.string x2)),.c (.sl 3 x3 none),.c (.sl 5 x4 none)]),(3000,.blk 0 [.c (.v (.int .i64 0)),.c (.v (.int .i64 0)),.c (.v (.string ⟨#[]⟩)),.c (.sl 3 [] (some [])),.c (.sl 5 [] (some []))]),(4000,.blk 0 [.c (.v (.int .i64 x0)),.c (.v (.int .i64 x1)),.c (.v (.string x2)),.c (.sl 3 [] (some [])),.c (.sl 5 [] (some []))])],1⟩)∨(tm=frame 0 31 [(1,.p 2000 0 0),(2,.p 3000 0 0),(3,.p 4000 0 0),(4,.c (.v (.int .i64 z2)))]∧m=⟨[(2000,.blk 0 [.c (.v (.int .i64 x0)),.c (.v (.int .i64 x1)),.c (.v (.string x2)),.c (.sl 3 x3 none),.c (.sl 5 x4 none)]),(3000,.blk 0 [.c (.v (.int .i64 0)),.c (.v (.int .i64 0)),.c (.v (.string ⟨#[]⟩)),.c (.sl 3 [] (some [])),.c (.sl 5 [] (some []))]),(4000,.blk 0 [.c (.v (.int .i64 x0)),.c (.v (.int .i64 x1)),.c (.v (.string x2)),.t 29000 0 (O.len z1),.c (.sl 5 [] (some []))]),(29000,.arr 0 3 z1 none false)],1⟩))∧p135_1L False fu K0 x0 x1 x2 x3 n z1 z2) (fun n=>n) fu ⟨nilE,0,(.inl ⟨rfl,(by (conv=>lhs;cbv)<;>(subst hO;rfl)),(by (conv=>lhs;cbv)<;>(subst hO;rfl))⟩),h⟩ ?_
 rintro n1 tm m L ⟨z1,z2,hs,h⟩ hLn1
 (cases n1 with
 | zero=>rw [p135_1L] at h;exact h.elim
 | succ n1 =>
 rw [p135_1L] at h
 unfold p135_1 at h
 rcases hs with hs | hs
 obtain⟨rfl,rfl,rfl⟩:=hs
 conv=>cbv
 refine br_h hO h (by subst hO;rfl) (fun k1 h=>?_) (fun k1 h=>?_)
 conv=>cbv
 refine z0b hO ?_
 conv=>cbv
 refine z0h hO tiA [[],[],[],[],[]] [(0,true,false),(1,true,false),(2,true,false),(3,true,false),(4,true,false),(5,true,false),(6,true,false),(7,false,false),(8,false,false),(9,false,true),(10,true,true),(11,false,true)] (by kernel_rfl) ?_
 conv=>cbv
 refine and_h h (fun g=>(by subst hO;exact g)) (fun h=>?_)
 refine and_h h (fun g=>(by subst hO;exact g)) (fun h=>?_)
 obtain⟨c3,c4,c5,hr,h⟩:=z0j h
 refine z0m hO _ (by subst hO;exact hr) ?_
 clear hr
 conv=>cbv
 refine z0c hO [.shut] (d_p101 fu O.len hN h) ?_
 intro e Q a b
 conv=>cbv
 refine⟨by subst a hO;rfl,?_⟩
 intro r bs d
 rw [b] at d
 clear a b h
 obtain⟨y6,y7,y8,_,⟨rfl,rfl⟩,h⟩:=d
 conv=>cbv
 refine agr hO rfl rfl ?_
 refine agr hO rfl rfl ?_
 refine z0t hO h (fun g=>(by subst hO;exact g)) (fun h=>?_)
 conv=>cbv
 refine and_h h (fun g=>(by subst hO;exact g)) (fun h=>?_)
 refine z4g hO (by subst hO;exact List.cons_ne_nil _ _) ?_
 conv=>cbv
 refine z0b hO ?_
 conv=>cbv
 exact hLn1 n1 _ _ (Nat.lt_succ_self n1) ⟨(nilE++(List.take 1 [[(CV.v (.int .i64 y6)),(CV.v (.int .i64 y7)),(CV.sl 3 y8 none)]])),z0d .add .i64 z2 1,(.inr ⟨(by (conv=>lhs;cbv)<;>(subst hO;rfl)),(by (conv=>lhs;cbv)<;>(subst hO;rfl))⟩),h⟩
 conv=>cbv
 rw [b]
 exact (.inl ⟨x0,x1,x2,nilE,nilE,_,⟨rfl,rfl,(by subst hO;rfl),(by subst hO;rfl)⟩,h⟩)
 obtain⟨rfl,rfl⟩:=hs
 conv=>cbv
 refine br_h hO h (by subst hO;rfl) (fun k1 h=>?_) (fun k1 h=>?_)
 conv=>cbv
 refine z0b hO ?_
 conv=>cbv
 refine z0h hO tiA [[],[],[],[],[]] [(0,true,false),(1,true,false),(2,true,false),(3,true,false),(4,true,false),(5,true,false),(6,true,false),(7,false,false),(8,false,false),(9,false,true),(10,true,true),(11,false,true)] (by kernel_rfl) ?_
 conv=>cbv
 refine and_h h (fun g=>(by subst hO;exact g)) (fun h=>?_)
 refine and_h h (fun g=>(by subst hO;exact g)) (fun h=>?_)
 obtain⟨c3,c4,c5,hr,h⟩:=z0j h
 refine z0m hO _ (by subst hO;exact hr) ?_
 clear hr
 conv=>cbv
 refine z0c hO [.shut] (d_p101 fu O.len hN h) ?_
 intro e Q a b
 conv=>cbv
 refine⟨by subst a hO;rfl,?_⟩
 intro r bs d
 rw [b] at d
 clear a b h
 obtain⟨y6,y7,y8,_,⟨rfl,rfl⟩,h⟩:=d
 conv=>cbv
 refine agr hO rfl rfl ?_
 refine agr hO rfl rfl ?_
 refine z0t hO h (fun g=>(by subst hO;exact g)) (fun h=>?_)
 conv=>cbv
 refine⟨(by subst hO;rfl),?_⟩
 refine and_h h (fun g=>(by subst hO;exact g)) (fun h=>?_)
 refine z0b hO ?_
 conv=>cbv
 exact hLn1 n1 _ _ (Nat.lt_succ_self n1) ⟨(z1++(List.take 1 [[(CV.v (.int .i64 y6)),(CV.v (.int .i64 y7)),(CV.sl 3 y8 none)]])),z0d .add .i64 z2 1,(.inr ⟨(by (conv=>lhs;cbv)<;>(subst hO;rfl)),(by (conv=>lhs;cbv)<;>(subst hO;rfl))⟩),h⟩
 conv=>cbv
 refine⟨(by subst hO;exact Nat.le_refl _),?_⟩
 rw [b]
 exact (.inr ⟨x0,x1,x2,z1,nilE,_,⟨rfl,(by subst hO;rfl),(by subst hO;rfl)⟩,h⟩))
theorem d_p142 (fu:Nat){K0:Int→Prop}(L:EL→Nat)(hN:L=List.length){x0 x1:Int}(h:p142 False fu K0 x0 x1):Den Try.prog G0 142 [.c (.v (.int .i64 x0)),.c (.v (.int .i64 x1))] (fun r bs=>(∃ (y0:Int) (o0 o1:OV),(r=.c (.v (.int .i64 y0))∧bs=[o0,o1])∧K0 y0)):=by
 obtain⟨O,hO⟩:∃ O,O=std 0 T G0 (Den Try.prog G0):=⟨_,rfl⟩
 have hLO:L=O.len:=by rw [hN,hO];rfl
 subst hLO
 refine den_h hO tiA mixed tabOk (fn:=Try.f142) (sh:=true) (by kernel_rfl) rfl rfl rfl rfl ?_
 intro Q b
 unfold p142 at h
 conv=>cbv
 refine z0u hO tiA [22] [] [] (fun tm m=>∃ (j1:Bool),((tm=frame 0 23 [(22,.c (.v (.bool j1)))]∧m=⟨[],1⟩))∧p142_1 False fu K0 j1) (fun L hL_1=>?_) ?_
 conv=>cbv
 refine br_h hO h (by subst hO;rfl) (fun k2 h=>?_) (fun k2 h=>?_)
 conv=>cbv
 refine br_t hO k2 ?_
 conv=>cbv
 refine br_t hO k2 ?_
 conv=>cbv
 refine br_t hO rfl ?_
 conv=>cbv
 refine br_t hO rfl ?_
 conv=>cbv
 refine br_t hO rfl ?_
 conv=>cbv
 refine br_h hO h (by subst hO;rfl) (fun k3 h=>?_) (fun k3 h=>?_)
 conv=>cbv
 refine br_t hO k3 ?_
 conv=>cbv
 refine br_t hO k3 ?_
 conv=>cbv
 refine br_t hO k3 ?_
 conv=>cbv
 refine br_t hO k3 ?_
 conv=>cbv
 exact hL_1 _ _ ⟨true,⟨(by (conv=>lhs;cbv)<;>(subst hO;rfl)),(by (conv=>lhs;cbv)<;>(subst hO;rfl))⟩,h⟩
 conv=>cbv
 refine br_f hO k3 ?_
 conv=>cbv
 refine br_f hO k3 ?_
 conv=>cbv
 refine br_h hO h (by subst hO;rfl) (fun k4 h=>?_) (fun k4 h=>?_)
 conv=>cbv
 refine br_t hO k4 ?_
 conv=>cbv
 refine br_f hO k3 ?_
 conv=>cbv
 refine br_t hO k4 ?_
 conv=>cbv
 refine br_f hO k3 ?_
 conv=>cbv
 exact hL_1 _ _ ⟨(z0a .eql x1 2),⟨(by (conv=>lhs;cbv)<;>(subst hO;rfl)),(by (conv=>lhs;cbv)<;>(subst hO;rfl))⟩,h⟩
 conv=>cbv
 refine br_f hO k4 ?_
 conv=>cbv
 refine br_f hO k3 ?_
 conv=>cbv
 refine br_f hO k4 ?_
 conv=>cbv
 refine br_f hO k3 ?_
 conv=>cbv
 exact hL_1 _ _ ⟨false,⟨(by (conv=>lhs;cbv)<;>(subst hO;rfl)),(by (conv=>lhs;cbv)<;>(subst hO;rfl))⟩,h⟩
 conv=>cbv
 refine br_f hO k2 ?_
 conv=>cbv
 refine br_f hO k2 ?_
 conv=>cbv
 refine br_h hO h (by subst hO;rfl) (fun k5 h=>?_) (fun k5 h=>?_)
 conv=>cbv
 refine br_t hO k5 ?_
 conv=>cbv
 refine br_t hO k5 ?_
 conv=>cbv
 refine br_h hO h (by subst hO;rfl) (fun k6 h=>?_) (fun k6 h=>?_)
 conv=>cbv
 refine br_t hO k6 ?_
 conv=>cbv
 refine br_t hO k6 ?_
 conv=>cbv
 refine br_t hO k6 ?_
 conv=>cbv
 refine br_t hO k6 ?_
 conv=>cbv
 exact hL_1 _ _ ⟨true,⟨(by (conv=>lhs;cbv)<;>(subst hO;rfl)),(by (conv=>lhs;cbv)<;>(subst hO;rfl))⟩,h⟩
 conv=>cbv
 refine br_f hO k6 ?_
 conv=>cbv
 refine br_f hO k6 ?_
 conv=>cbv
 refine br_h hO h (by subst hO;rfl) (fun k7 h=>?_) (fun k7 h=>?_)
 conv=>cbv
 refine br_t hO k7 ?_
 conv=>cbv
 refine br_f hO k6 ?_
 conv=>cbv
 refine br_t hO k7 ?_
 conv=>cbv
 refine br_f hO k6 ?_
 conv=>cbv
 exact hL_1 _ _ ⟨(z0a .eql x1 2),⟨(by (conv=>lhs;cbv)<;>(subst hO;rfl)),(by (conv=>lhs;cbv)<;>(subst hO;rfl))⟩,h⟩
 conv=>cbv
 refine br_f hO k7 ?_
 conv=>cbv
 refine br_f hO k6 ?_
 conv=>cbv
 refine br_f hO k7 ?_
 conv=>cbv
 refine br_f hO k6 ?_
 conv=>cbv
 exact hL_1 _ _ ⟨false,⟨(by (conv=>lhs;cbv)<;>(subst hO;rfl)),(by (conv=>lhs;cbv)<;>(subst hO;rfl))⟩,h⟩
 conv=>cbv
 refine br_f hO k5 ?_
 conv=>cbv
 refine br_f hO k5 ?_
 conv=>cbv
 refine br_f hO rfl ?_
 conv=>cbv
 refine br_f hO rfl ?_
 conv=>cbv
 refine br_f hO rfl ?_
 conv=>cbv
 refine br_h hO h (by subst hO;rfl) (fun k8 h=>?_) (fun k8 h=>?_)
 conv=>cbv
 refine br_t hO k8 ?_
 conv=>cbv
 refine br_f hO rfl ?_
 conv=>cbv
 refine br_t hO k8 ?_
 conv=>cbv
 refine br_f hO rfl ?_
 conv=>cbv
 exact hL_1 _ _ ⟨(z0a .eql x1 2),⟨(by (conv=>lhs;cbv)<;>(subst hO;rfl)),(by (conv=>lhs;cbv)<;>(subst hO;rfl))⟩,h⟩
 conv=>cbv
 refine br_f hO k8 ?_
 conv=>cbv
 refine br_f hO rfl ?_
 conv=>cbv
 refine br_f hO k8 ?_
 conv=>cbv
 refine br_f hO rfl ?_
 conv=>cbv
 exact hL_1 _ _ ⟨false,⟨(by (conv=>lhs;cbv)<;>(subst hO;rfl)),(by (conv=>lhs;cbv)<;>(subst hO;rfl))⟩,h⟩
 rintro tm m ⟨j1,hs,h⟩
 unfold p142_1 at h
 obtain⟨rfl,rfl⟩:=hs
 conv=>cbv
 refine br_h hO h (by subst hO;rfl) (fun k1 h=>?_) (fun k1 h=>?_)
 conv=>cbv
 rw [b]
 exact⟨1,_,_,⟨(by subst hO;rfl),(by subst hO;rfl)⟩,h⟩
 conv=>cbv
 refine z0b hO ?_
 conv=>cbv
 rw [b]
 exact⟨0,_,_,⟨(by subst hO;rfl),(by subst hO;rfl)⟩,h⟩
end Go.Proofs.Ythncmjlcmlmnmaa
