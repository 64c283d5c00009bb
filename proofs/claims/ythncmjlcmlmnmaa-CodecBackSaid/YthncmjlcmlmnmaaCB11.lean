/- A part of the proof. Conditions: none. -/
import Derived.Test.YthncmjlcmlmnmaaCB4
import Derived.Test.YthncmjlcmlmnmaaCB10
import Derived.Test.YthncmjlcmlmnmaaCB7
import Derived.Test.YthncmjlcmlmnmaaCB5
import Derived.Test.YthncmjlcmlmnmaaCB8
import Derived.ProofKit
import Derived.WalkKit
import Derived.LoopTactic
import Derived.Lib.Hide
import Derived.KernelRfl
import Derived.Test.YthncmjlcmlmnmaaCB9
import Derived.Test.YthncmjlcmlmnmaaCB6
namespace Go.Proofs.Ythncmjlcmlmnmaa
open Go V
set_option maxRecDepth 100000
set_option maxHeartbeats 4000000
theorem d_p38 (fu:Nat){K0:Bool→Prop}(L:EL→Nat)(hN:L=List.length){x0 x1 x2:Int}{x3 x4:ByteArray}{x5 x6:Int}{x7:ByteArray}{x8 x9:EL}{x10 x11:Int}{x12:ByteArray}{x13 x14 x15:EL}{x16 x17 x18:Int}{x19 x20:ByteArray}{x21 x22:Int}{x23:ByteArray}{x24 x25:EL}{x26 x27:Int}{x28:ByteArray}{x29 x30 x31:EL}(h:p38 False fu K0 x0 x1 x2 x3 x4 x5 x6 x7 x8 x9 x10 x11 x12 x13 x14 x15 x16 x17 x18 x19 x20 x21 x22 x23 x24 x25 x26 x27 x28 x29 x30 x31):Den Try.prog G0 38 [.agg [.c (.v (.int .i64 x0)),.c (.v (.int .i64 x1)),.c (.v (.int .i64 x2)),.c (.v (.string x3)),.c (.v (.string x4)),.c (.v (.int .i64 x5)),.c (.v (.int .i64 x6)),.c (.v (.string x7)),.c (.sl 3 x8 none),.c (.sl 5 x9 none),.c (.v (.int .i64 x10)),.c (.v (.int .i64 x11)),.c (.v (.string x12)),.c (.sl 3 x13 none),.c (.sl 5 x14 none),.c (.sl 6 x15 none)],.agg [.c (.v (.int .i64 x16)),.c (.v (.int .i64 x17)),.c (.v (.int .i64 x18)),.c (.v (.string x19)),.c (.v (.string x20)),.c (.v (.int .i64 x21)),.c (.v (.int .i64 x22)),.c (.v (.string x23)),.c (.sl 3 x24 none),.c (.sl 5 x25 none),.c (.v (.int .i64 x26)),.c (.v (.int .i64 x27)),.c (.v (.string x28)),.c (.sl 3 x29 none),.c (.sl 5 x30 none),.c (.sl 6 x31 none)]] (fun r bs=>(∃ (y0:Bool) (o0 o1:OV),(r=.c (.v (.bool y0))∧bs=[o0,o1])∧K0 y0)):=by
 obtain⟨O,hO⟩:∃ O,O=std 0 T G0 (Den Try.prog G0):=⟨_,rfl⟩
 have hLO:L=O.len:=by rw [hN,hO];rfl
 subst hLO
 refine den_h hO tiA mixed tabOk (fn:=Try.f38) (sh:=true) (by kernel_rfl) rfl rfl rfl rfl ?_
 intro Q b
 unfold p38 at h
 conv=>cbv
 refine z0q hO tiA [2,3,63] [3000,4000] [] (fun tm m=>∃ (j1:Bool),((tm=frame 0 100 [(2,.p 3000 0 0),(3,.p 4000 0 0),(63,.c (.v (.bool j1)))]∧m=⟨[(3000,.blk 0 [.c (.v (.int .i64 x0)),.c (.v (.int .i64 x1)),.c (.v (.int .i64 x2)),.c (.v (.string x3)),.c (.v (.string x4)),.c (.v (.int .i64 x5)),.c (.v (.int .i64 x6)),.c (.v (.string x7)),.c (.sl 3 x8 none),.c (.sl 5 x9 none),.c (.v (.int .i64 x10)),.c (.v (.int .i64 x11)),.c (.v (.string x12)),.c (.sl 3 x13 none),.c (.sl 5 x14 none),.c (.sl 6 x15 none)]),(4000,.blk 0 [.c (.v (.int .i64 x16)),.c (.v (.int .i64 x17)),.c (.v (.int .i64 x18)),.c (.v (.string x19)),.c (.v (.string x20)),.c (.v (.int .i64 x21)),.c (.v (.int .i64 x22)),.c (.v (.string x23)),.c (.sl 3 x24 none),.c (.sl 5 x25 none),.c (.v (.int .i64 x26)),.c (.v (.int .i64 x27)),.c (.v (.string x28)),.c (.sl 3 x29 none),.c (.sl 5 x30 none),.c (.sl 6 x31 none)])],1⟩))∧p38_3 False fu K0 x15 x31 j1) (fun L hL_3=>?_) ?_
 conv=>cbv
 refine br_h hO h (by subst hO;rfl) (fun k5 h=>?_) (fun k5 h=>?_)
 conv=>cbv
 refine br_t hO k5 ?_
 conv=>cbv
 refine br_t hO k5 ?_
 conv=>cbv
 refine br_t hO k5 ?_
 conv=>cbv
 refine br_t hO k5 ?_
 conv=>cbv
 refine br_t hO k5 ?_
 conv=>cbv
 refine br_t hO rfl ?_
 conv=>cbv
 refine br_t hO rfl ?_
 conv=>cbv
 refine br_t hO rfl ?_
 conv=>cbv
 refine br_t hO rfl ?_
 conv=>cbv
 refine br_t hO rfl ?_
 conv=>cbv
 refine br_t hO rfl ?_
 conv=>cbv
 refine br_t hO rfl ?_
 conv=>cbv
 refine br_t hO rfl ?_
 conv=>cbv
 refine br_t hO rfl ?_
 conv=>cbv
 refine br_t hO rfl ?_
 conv=>cbv
 refine br_t hO rfl ?_
 conv=>cbv
 refine br_t hO rfl ?_
 conv=>cbv
 refine br_t hO rfl ?_
 conv=>cbv
 refine br_t hO rfl ?_
 conv=>cbv
 refine br_t hO rfl ?_
 conv=>cbv
 refine br_t hO rfl ?_
 conv=>cbv
 refine br_t hO rfl ?_
 conv=>cbv
 refine br_t hO rfl ?_
 conv=>cbv
 refine br_t hO rfl ?_
 conv=>cbv
 refine br_t hO rfl ?_
 conv=>cbv
 refine br_t hO rfl ?_
 conv=>cbv
 refine br_t hO rfl ?_
 conv=>cbv
 refine br_t hO rfl ?_
 conv=>cbv
 refine br_t hO rfl ?_
 conv=>cbv
 refine br_t hO rfl ?_
 conv=>cbv
 refine br_t hO rfl ?_
 conv=>cbv
 refine br_t hO rfl ?_
 conv=>cbv
 refine br_t hO rfl ?_
 conv=>cbv
 refine br_t hO rfl ?_
 conv=>cbv
 refine br_t hO rfl ?_
 conv=>cbv
 refine br_t hO rfl ?_
 conv=>cbv
 refine br_t hO rfl ?_
 conv=>cbv
 refine br_t hO rfl ?_
 conv=>cbv
 refine br_t hO rfl ?_
 conv=>cbv
 refine br_t hO rfl ?_
 conv=>cbv
 refine br_t hO rfl ?_
 conv=>cbv
 refine br_t hO rfl ?_
 conv=>cbv
 refine br_t hO rfl ?_
 conv=>cbv
 refine br_t hO rfl ?_
 conv=>cbv
 refine br_t hO rfl ?_
 conv=>cbv
 exact hL_3 _ _ ⟨true,⟨(by (conv=>lhs;cbv)<;>(subst hO;rfl)),(by (conv=>lhs;cbv)<;>(subst hO;rfl))⟩,h⟩
 conv=>cbv
 refine br_f hO k5 ?_
 conv=>cbv
 refine br_f hO k5 ?_
 conv=>cbv
 refine br_f hO k5 ?_
 conv=>cbv
 refine br_f hO k5 ?_
 conv=>cbv
 refine br_f hO k5 ?_
 conv=>cbv
 refine br_h hO h (by subst hO;rfl) (fun k6 h=>?_) (fun k6 h=>?_)
 conv=>cbv
 refine br_t hO k6 ?_
 conv=>cbv
 refine br_t hO k6 ?_
 conv=>cbv
 refine br_t hO k6 ?_
 conv=>cbv
 refine br_t hO k6 ?_
 conv=>cbv
 refine br_t hO k6 ?_
 conv=>cbv
 refine br_t hO rfl ?_
 conv=>cbv
 refine br_t hO rfl ?_
 conv=>cbv
 refine br_t hO rfl ?_
 conv=>cbv
 refine br_t hO rfl ?_
 conv=>cbv
 refine br_t hO rfl ?_
 conv=>cbv
 refine br_t hO rfl ?_
 conv=>cbv
 refine br_t hO rfl ?_
 conv=>cbv
 refine br_t hO rfl ?_
 conv=>cbv
 refine br_t hO rfl ?_
 conv=>cbv
 refine br_t hO rfl ?_
 conv=>cbv
 refine br_t hO rfl ?_
 conv=>cbv
 refine br_t hO rfl ?_
 conv=>cbv
 refine br_t hO rfl ?_
 conv=>cbv
 refine br_t hO rfl ?_
 conv=>cbv
 refine br_t hO rfl ?_
 conv=>cbv
 refine br_t hO rfl ?_
 conv=>cbv
 refine br_t hO rfl ?_
 conv=>cbv
 refine br_t hO rfl ?_
 conv=>cbv
 refine br_t hO rfl ?_
 conv=>cbv
 refine br_t hO rfl ?_
 conv=>cbv
 refine br_t hO rfl ?_
 conv=>cbv
 refine br_t hO rfl ?_
 conv=>cbv
 refine br_t hO rfl ?_
 conv=>cbv
 refine br_t hO rfl ?_
 conv=>cbv
 refine br_t hO rfl ?_
 conv=>cbv
 refine br_t hO rfl ?_
 conv=>cbv
 refine br_t hO rfl ?_
 conv=>cbv
 refine br_t hO rfl ?_
 conv=>cbv
 refine br_t hO rfl ?_
 conv=>cbv
 refine br_t hO rfl ?_
 conv=>cbv
 refine br_t hO rfl ?_
 conv=>cbv
 refine br_t hO rfl ?_
 conv=>cbv
 refine br_t hO rfl ?_
 conv=>cbv
 refine br_t hO rfl ?_
 conv=>cbv
 exact hL_3 _ _ ⟨true,⟨(by (conv=>lhs;cbv)<;>(subst hO;rfl)),(by (conv=>lhs;cbv)<;>(subst hO;rfl))⟩,h⟩
 conv=>cbv
 refine br_f hO k6 ?_
 conv=>cbv
 refine br_f hO k6 ?_
 conv=>cbv
 refine br_f hO k6 ?_
 conv=>cbv
 refine br_f hO k6 ?_
 conv=>cbv
 refine br_f hO k6 ?_
 conv=>cbv
 refine br_h hO h (by subst hO;rfl) (fun k7 h=>?_) (fun k7 h=>?_)
 conv=>cbv
 refine br_t hO k7 ?_
 conv=>cbv
 refine br_t hO k7 ?_
 conv=>cbv
 refine br_t hO k7 ?_
 conv=>cbv
 refine br_t hO k7 ?_
 conv=>cbv
 refine br_t hO k7 ?_
 conv=>cbv
 refine br_t hO rfl ?_
 conv=>cbv
 refine br_t hO rfl ?_
 conv=>cbv
 refine br_t hO rfl ?_
 conv=>cbv
 refine br_t hO rfl ?_
 conv=>cbv
 refine br_t hO rfl ?_
 conv=>cbv
 refine br_t hO rfl ?_
 conv=>cbv
 refine br_t hO rfl ?_
 conv=>cbv
 refine br_t hO rfl ?_
 conv=>cbv
 refine br_t hO rfl ?_
 conv=>cbv
 refine br_t hO rfl ?_
 conv=>cbv
 refine br_t hO rfl ?_
 conv=>cbv
 refine br_t hO rfl ?_
 conv=>cbv
 refine br_t hO rfl ?_
 conv=>cbv
 refine br_t hO rfl ?_
 conv=>cbv
 refine br_t hO rfl ?_
 conv=>cbv
 refine br_t hO rfl ?_
 conv=>cbv
 refine br_t hO rfl ?_
 conv=>cbv
 refine br_t hO rfl ?_
 conv=>cbv
 refine br_t hO rfl ?_
 conv=>cbv
 refine br_t hO rfl ?_
 conv=>cbv
 refine br_t hO rfl ?_
 conv=>cbv
 refine br_t hO rfl ?_
 conv=>cbv
 refine br_t hO rfl ?_
 conv=>cbv
 refine br_t hO rfl ?_
 conv=>cbv
 refine br_t hO rfl ?_
 conv=>cbv
 refine br_t hO rfl ?_
 conv=>cbv
 refine br_t hO rfl ?_
 conv=>cbv
 refine br_t hO rfl ?_
 conv=>cbv
 exact hL_3 _ _ ⟨true,⟨(by (conv=>lhs;cbv)<;>(subst hO;rfl)),(by (conv=>lhs;cbv)<;>(subst hO;rfl))⟩,h⟩
 conv=>cbv
 refine br_f hO k7 ?_
 conv=>cbv
 refine br_f hO k7 ?_
 conv=>cbv
 refine br_f hO k7 ?_
 conv=>cbv
 refine br_f hO k7 ?_
 conv=>cbv
 refine br_f hO k7 ?_
 conv=>cbv
 refine br_h hO h (by subst hO;rfl) (fun k8 h=>?_) (fun k8 h=>?_)
 conv=>cbv
 refine br_t hO k8 ?_
 conv=>cbv
 refine br_t hO k8 ?_
 conv=>cbv
 refine br_t hO k8 ?_
 conv=>cbv
 refine br_t hO k8 ?_
 conv=>cbv
 refine br_t hO k8 ?_
 conv=>cbv
 refine br_t hO rfl ?_
 conv=>cbv
 refine br_t hO rfl ?_
 conv=>cbv
 refine br_t hO rfl ?_
 conv=>cbv
 refine br_t hO rfl ?_
 conv=>cbv
 refine br_t hO rfl ?_
 conv=>cbv
 refine br_t hO rfl ?_
 conv=>cbv
 refine br_t hO rfl ?_
 conv=>cbv
 refine br_t hO rfl ?_
 conv=>cbv
 refine br_t hO rfl ?_
 conv=>cbv
 refine br_t hO rfl ?_
 conv=>cbv
 refine br_t hO rfl ?_
 conv=>cbv
 refine br_t hO rfl ?_
 conv=>cbv
 refine br_t hO rfl ?_
 conv=>cbv
 refine br_t hO rfl ?_
 conv=>cbv
 refine br_t hO rfl ?_
 conv=>cbv
 refine br_t hO rfl ?_
 conv=>cbv
 refine br_t hO rfl ?_
 conv=>cbv
 refine br_t hO rfl ?_
 conv=>cbv
 refine br_t hO rfl ?_
 conv=>cbv
 refine br_t hO rfl ?_
 conv=>cbv
 refine br_t hO rfl ?_
 conv=>cbv
 refine br_t hO rfl ?_
 conv=>cbv
 exact hL_3 _ _ ⟨true,⟨(by (conv=>lhs;cbv)<;>(subst hO;rfl)),(by (conv=>lhs;cbv)<;>(subst hO;rfl))⟩,h⟩
 conv=>cbv
 refine br_f hO k8 ?_
 conv=>cbv
 refine br_f hO k8 ?_
 conv=>cbv
 refine br_f hO k8 ?_
 conv=>cbv
 refine br_f hO k8 ?_
 conv=>cbv
 refine br_f hO k8 ?_
 conv=>cbv
 refine br_h hO h (by subst hO;rfl) (fun k9 h=>?_) (fun k9 h=>?_)
 conv=>cbv
 refine br_t hO k9 ?_
 conv=>cbv
 refine br_t hO k9 ?_
 conv=>cbv
 refine br_t hO k9 ?_
 conv=>cbv
 refine br_t hO k9 ?_
 conv=>cbv
 refine br_t hO k9 ?_
 conv=>cbv
 refine br_t hO k9 ?_
 conv=>cbv
 refine br_t hO rfl ?_
 conv=>cbv
 refine br_t hO rfl ?_
 conv=>cbv
 refine br_t hO rfl ?_
 conv=>cbv
 refine br_t hO rfl ?_
 conv=>cbv
 refine br_t hO rfl ?_
 conv=>cbv
 refine br_t hO rfl ?_
 conv=>cbv
 refine br_t hO rfl ?_
 conv=>cbv
 refine br_t hO rfl ?_
 conv=>cbv
 refine br_t hO rfl ?_
 conv=>cbv
 refine br_t hO rfl ?_
 conv=>cbv
 refine br_t hO rfl ?_
 conv=>cbv
 refine br_t hO rfl ?_
 conv=>cbv
 refine br_t hO rfl ?_
 conv=>cbv
 refine br_t hO rfl ?_
 conv=>cbv
 refine br_t hO rfl ?_
 conv=>cbv
 exact hL_3 _ _ ⟨true,⟨(by (conv=>lhs;cbv)<;>(subst hO;rfl)),(by (conv=>lhs;cbv)<;>(subst hO;rfl))⟩,h⟩
 conv=>cbv
 refine br_f hO k9 ?_
 conv=>cbv
 refine br_f hO k9 ?_
 conv=>cbv
 refine br_f hO k9 ?_
 conv=>cbv
 refine br_f hO k9 ?_
 conv=>cbv
 refine z0b hO [.shut,.shut] (d_p19 fu O.len hN h) ?_
 intro e Q a b
 conv=>cbv
 refine⟨by subst a hO;rfl,?_⟩
 intro r bs d
 rw [b] at d
 clear a b h
 obtain⟨y29,_,_,⟨rfl,rfl⟩,h⟩:=d
 conv=>cbv
 refine br_f hO k9 ?_
 conv=>cbv
 refine br_f hO k9 ?_
 conv=>cbv
 refine br_h hO h (by subst hO;rfl) (fun k10 h=>?_) (fun k10 h=>?_)
 conv=>cbv
 refine br_t hO k10 ?_
 conv=>cbv
 refine br_t hO k10 ?_
 conv=>cbv
 refine br_t hO k10 ?_
 conv=>cbv
 refine br_t hO k10 ?_
 conv=>cbv
 refine br_t hO k10 ?_
 conv=>cbv
 refine br_t hO k10 ?_
 conv=>cbv
 refine br_t hO rfl ?_
 conv=>cbv
 refine br_t hO rfl ?_
 conv=>cbv
 refine br_t hO rfl ?_
 conv=>cbv
 refine br_t hO rfl ?_
 conv=>cbv
 refine br_t hO rfl ?_
 conv=>cbv
 refine br_t hO rfl ?_
 conv=>cbv
 refine br_t hO rfl ?_
 conv=>cbv
 refine br_t hO rfl ?_
 conv=>cbv
 exact hL_3 _ _ ⟨true,⟨(by (conv=>lhs;cbv)<;>(subst hO;rfl)),(by (conv=>lhs;cbv)<;>(subst hO;rfl))⟩,h⟩
 conv=>cbv
 refine br_f hO k10 ?_
 conv=>cbv
 refine br_f hO k10 ?_
 conv=>cbv
 refine br_f hO k10 ?_
 conv=>cbv
 refine br_f hO k10 ?_
 conv=>cbv
 refine z0b hO [.shut,.shut] (d_p19 fu O.len hN h) ?_
 intro e Q a b
 conv=>cbv
 refine⟨by subst a hO;rfl,?_⟩
 intro r bs d
 rw [b] at d
 clear a b h
 obtain⟨y30,_,_,⟨rfl,rfl⟩,h⟩:=d
 conv=>cbv
 refine br_f hO k10 ?_
 conv=>cbv
 refine br_f hO k10 ?_
 conv=>cbv
 refine br_h hO h (by subst hO;rfl) (fun k11 h=>?_) (fun k11 h=>?_)
 conv=>cbv
 refine br_t hO k11 ?_
 conv=>cbv
 refine br_t hO k11 ?_
 conv=>cbv
 refine br_t hO k11 ?_
 conv=>cbv
 refine br_t hO k11 ?_
 conv=>cbv
 refine br_t hO k11 ?_
 conv=>cbv
 refine br_t hO k11 ?_
 conv=>cbv
 refine br_t hO k11 ?_
 conv=>cbv
 exact hL_3 _ _ ⟨true,⟨(by (conv=>lhs;cbv)<;>(subst hO;rfl)),(by (conv=>lhs;cbv)<;>(subst hO;rfl))⟩,h⟩
 conv=>cbv
 refine br_f hO k11 ?_
 conv=>cbv
 refine br_f hO k11 ?_
 conv=>cbv
 refine br_f hO k11 ?_
 conv=>cbv
 refine br_f hO k11 ?_
 conv=>cbv
 refine br_f hO k11 ?_
 conv=>cbv
 refine br_f hO k11 ?_
 conv=>cbv
 refine br_f hO k11 ?_
 conv=>cbv
 exact hL_3 _ _ ⟨(z0a .neq ((x15.length:Nat):Int) ((x31.length:Nat):Int)),⟨(by (conv=>lhs;cbv)<;>(subst hO;rfl)),(by (conv=>lhs;cbv)<;>(subst hO;rfl))⟩,h⟩
 rintro tm m ⟨j1,hs,h⟩
 unfold p38_3 at h
 obtain⟨rfl,rfl⟩:=hs
 conv=>cbv
 refine br_h hO h (by subst hO;rfl) (fun k1 h=>?_) (fun k1 h=>?_)
 conv=>cbv
 rw [b]
 exact⟨false,_,_,⟨(by subst hO;rfl),(by subst hO;rfl)⟩,h⟩
 conv=>cbv
 refine z0c hO ?_
 conv=>cbv
 refine z0v hO tiA [2,3,5] [3000,4000] [] (fun (n:Nat) tm m=>∃ (z2:Int),((tm=frame 0 100 [(2,.p 3000 0 0),(3,.p 4000 0 0),(5,.c (.v (.int .i64 z2)))]∧m=⟨[(3000,.blk 0 [.c (.v (.int .i64 x0)),.c (.v (.int .i64 x1)),.c (.v (.int .i64 x2)),.c (.v (.string x3)),.c (.v (.string x4)),.c (.v (.int .i64 x5)),.c (.v (.int .i64 x6)),.c (.v (.string x7)),.c (.sl 3 x8 none),.c (.sl 5 x9 none),.c (.v (.int .i64 x10)),.c (.v (.int .i64 x11)),.c (.v (.string x12)),.c (.sl 3 x13 none),.c (.sl 5 x14 none),.c (.sl 6 x15 none)]),(4000,.blk 0 [.c (.v (.int .i64 x16)),.c (.v (.int .i64 x17)),.c (.v (.int .i64 x18)),.c (.v (.string x19)),.c (.v (.string x20)),.c (.v (.int .i64 x21)),.c (.v (.int .i64 x22)),.c (.v (.string x23)),.c (.sl 3 x24 none),.c (.sl 5 x25 none),.c (.v (.int .i64 x26)),.c (.v (.int .i64 x27)),.c (.v (.string x28)),.c (.sl 3 x29 none),.c (.sl 5 x30 none),.c (.sl 6 x31 none)])],1⟩))∧p38_2L False fu K0 x15 x31 n z2) (fun n=>n) fu ⟨0,⟨(by (conv=>lhs;cbv)<;>(subst hO;rfl)),(by (conv=>lhs;cbv)<;>(subst hO;rfl))⟩,h⟩ ?_
 rintro n1 tm m L ⟨z2,hs,h⟩ hLn1
 (cases n1 with
 | zero=>rw [p38_2L] at h;exact h.elim
 | succ n1 =>
 rw [p38_2L] at h
 unfold p38_2 at h
 obtain⟨rfl,rfl⟩:=hs
 conv=>cbv
 refine br_h hO h (by subst hO;rfl) (fun k2 h=>?_) (fun k2 h=>?_)
 conv=>cbv
 refine z0c hO ?_
 conv=>cbv
 refine z1a hO tiA [[],[]] [(0,true,false),(1,true,false),(2,true,false),(3,true,false),(4,true,false),(5,true,false),(6,true,false),(7,true,false),(8,true,false),(9,true,false),(10,true,false),(11,true,false),(12,true,false),(13,true,false),(14,true,false),(15,true,false),(16,true,false),(17,true,false),(18,true,false),(19,true,false),(20,true,false),(21,true,false),(22,true,false),(23,true,false),(24,true,false),(25,true,false),(26,false,false),(27,true,false),(28,true,false)] (by kernel_rfl) [2,3,5,99] [3000,4000] [] (fun tm m=>∃ (j3:Bool),((tm=frame 0 100 [(2,.p 3000 0 0),(3,.p 4000 0 0),(5,.c (.v (.int .i64 z2))),(99,.c (.v (.bool j3)))]∧m=⟨[(3000,.blk 0 [.c (.v (.int .i64 x0)),.c (.v (.int .i64 x1)),.c (.v (.int .i64 x2)),.c (.v (.string x3)),.c (.v (.string x4)),.c (.v (.int .i64 x5)),.c (.v (.int .i64 x6)),.c (.v (.string x7)),.c (.sl 3 x8 none),.c (.sl 5 x9 none),.c (.v (.int .i64 x10)),.c (.v (.int .i64 x11)),.c (.v (.string x12)),.c (.sl 3 x13 none),.c (.sl 5 x14 none),.c (.sl 6 x15 none)]),(4000,.blk 0 [.c (.v (.int .i64 x16)),.c (.v (.int .i64 x17)),.c (.v (.int .i64 x18)),.c (.v (.string x19)),.c (.v (.string x20)),.c (.v (.int .i64 x21)),.c (.v (.int .i64 x22)),.c (.v (.string x23)),.c (.sl 3 x24 none),.c (.sl 5 x25 none),.c (.v (.int .i64 x26)),.c (.v (.int .i64 x27)),.c (.v (.string x28)),.c (.sl 3 x29 none),.c (.sl 5 x30 none),.c (.sl 6 x31 none)])],1⟩))∧p38_1 False fu K0 (p38_2L False fu K0 x15 x31 n1) z2 j3) (fun L hL_1=>?_) ?_
 conv=>cbv
 refine and_h h (fun g=>(by subst hO;exact g)) (fun h=>?_)
 refine and_h h (fun g=>(by subst hO;exact g)) (fun h=>?_)
 obtain⟨c4,c5,c6,c7,c8,c9,hr,h⟩:=z0t h
 refine z0p hO _ (by subst hO;exact hr) ?_
 clear hr
 conv=>cbv
 refine and_h h (fun g=>(by subst hO;exact g)) (fun h=>?_)
 refine and_h h (fun g=>(by subst hO;exact g)) (fun h=>?_)
 obtain⟨c10,c11,c12,c13,c14,c15,hr,h⟩:=z0t h
 refine z0p hO _ (by subst hO;exact hr) ?_
 clear hr
 conv=>cbv
 refine br_h hO h (by subst hO;rfl) (fun k4 h=>?_) (fun k4 h=>?_)
 conv=>cbv
 refine br_t hO k4 ?_
 conv=>cbv
 refine br_t hO k4 ?_
 conv=>cbv
 refine br_t hO k4 ?_
 conv=>cbv
 refine br_t hO k4 ?_
 conv=>cbv
 refine br_t hO k4 ?_
 conv=>cbv
 refine br_t hO k4 ?_
 conv=>cbv
 refine br_t hO k4 ?_
 conv=>cbv
 refine br_t hO k4 ?_
 conv=>cbv
 refine br_t hO k4 ?_
 conv=>cbv
 refine br_t hO k4 ?_
 conv=>cbv
 refine br_t hO k4 ?_
 conv=>cbv
 refine br_t hO k4 ?_
 conv=>cbv
 refine br_t hO k4 ?_
 conv=>cbv
 refine br_t hO k4 ?_
 conv=>cbv
 exact hL_1 _ _ ⟨true,⟨(by (conv=>lhs;cbv)<;>(subst hO;rfl)),(by (conv=>lhs;cbv)<;>(subst hO;rfl))⟩,h⟩
 conv=>cbv
 refine br_f hO k4 ?_
 conv=>cbv
 refine br_f hO k4 ?_
 conv=>cbv
 refine br_f hO k4 ?_
 conv=>cbv
 refine and_h h (fun g=>(by subst hO;exact g)) (fun h=>?_)
 refine and_h h (fun g=>(by subst hO;exact g)) (fun h=>?_)
 obtain⟨c16,c17,c18,c19,c20,c21,hr,h⟩:=z0t h
 refine z0p hO _ (by subst hO;exact hr) ?_
 clear hr
 conv=>cbv
 refine br_f hO k4 ?_
 conv=>cbv
 refine br_f hO k4 ?_
 conv=>cbv
 refine br_f hO k4 ?_
 conv=>cbv
 refine br_f hO k4 ?_
 conv=>cbv
 refine br_f hO k4 ?_
 conv=>cbv
 refine br_f hO k4 ?_
 conv=>cbv
 refine and_h h (fun g=>(by subst hO;exact g)) (fun h=>?_)
 refine and_h h (fun g=>(by subst hO;exact g)) (fun h=>?_)
 obtain⟨c22,c23,c24,c25,c26,c27,hr,h⟩:=z0t h
 refine z0p hO _ (by subst hO;exact hr) ?_
 clear hr
 conv=>cbv
 refine br_f hO k4 ?_
 conv=>cbv
 refine br_f hO k4 ?_
 conv=>cbv
 refine br_f hO k4 ?_
 conv=>cbv
 refine z0b hO [.shut,.shut] (d_p19 fu O.len hN h) ?_
 intro e Q a b
 conv=>cbv
 refine⟨by subst a hO;rfl,?_⟩
 intro r bs d
 rw [b] at d
 clear a b h
 obtain⟨y28,_,_,⟨rfl,rfl⟩,h⟩:=d
 conv=>cbv
 refine agr hO rfl rfl ?_
 refine br_f hO k4 ?_
 conv=>cbv
 refine br_f hO k4 ?_
 conv=>cbv
 exact hL_1 _ _ ⟨(!y28),⟨(by (conv=>lhs;cbv)<;>(subst hO;rfl)),(by (conv=>lhs;cbv)<;>(subst hO;rfl))⟩,h⟩
 rintro tm m ⟨j3,hs,h⟩
 unfold p38_1 at h
 obtain⟨rfl,rfl⟩:=hs
 conv=>cbv
 refine br_h hO h (by subst hO;rfl) (fun k3 h=>?_) (fun k3 h=>?_)
 conv=>cbv
 rw [b]
 exact⟨false,_,_,⟨(by subst hO;rfl),(by subst hO;rfl)⟩,h⟩
 conv=>cbv
 refine z0c hO ?_
 conv=>cbv
 exact hLn1 n1 _ _ (Nat.lt_succ_self n1) ⟨z0d .add .i64 z2 1,⟨(by (conv=>lhs;cbv)<;>(subst hO;rfl)),(by (conv=>lhs;cbv)<;>(subst hO;rfl))⟩,h⟩
 conv=>cbv
 rw [b]
 exact⟨true,_,_,⟨(by subst hO;rfl),(by subst hO;rfl)⟩,h⟩)
theorem w2w {ρ:Type} (fail:ρ) (l:List (ByteArray × Tm)) (i:Nat) (h:i < l.length) (k:ByteArray→Int→Int→ByteArray→EL→EL→ρ):z0l fail (List.getD (l.map ctRow) (((i:Nat):Int)).toNat []) k=k l[i].1 l[i].2.k l[i].2.n l[i].2.nm (Lv.rows l[i].2.ls) (Tm.rows l[i].2.args):=w8j fail l i h k
theorem cts_same {ρ:Type} (fail:ρ) (fu:Nat) (K:Bool→ρ) (l:List (ByteArray × Tm)) (hf:ctsSz l + 60≤fu) (hs:ctsSz l < 1099511627776):∀ (r n i:Nat),i + r=l.length→r < n→p38_2L fail fu K (l.map ctRow) (l.map ctRow) n (i:Nat)=K true:=by
 have hlen:=z5g l
 intro r
 induction r with
 | zero =>
  intro n i hi hn
  obtain⟨n,rfl⟩:∃ m,n=m + 1:=⟨n - 1,by omega⟩
  rw [p38_2L,p38_2,List.length_map,lssF (by omega),cond_false]
 | succ r ih =>
  intro n i hi hn
  obtain⟨n,rfl⟩:∃ m,n=m + 1:=⟨n - 1,by omega⟩
  have hlt:i < l.length:=by omega
  have hm:=w0l (List.getElem_mem hlt)
  rw [p38_2L,p38_2,List.length_map,lssT (by omega),cond_true,gd_y (by omega),gd_y (by omega),w2w fail l i hlt,gd_y (by omega),gd_y (by omega),w2w fail l i hlt,z5l,cond_false,gd_y (by omega),gd_y (by omega),w2w fail l i hlt,gd_y (by omega),gd_y (by omega),w2w fail l i hlt,
   w2a fail _ l[i].2 (Nat.le_refl _) fu _ (by omega) (by omega),Bool.not_true,p38_1,cond_false,addZ (by omega) (by omega),show ((i:Nat):Int) + 1=((i + 1:Nat):Int) by omega]
  exact ih n (i + 1) (by omega) (by omega)
theorem dc_same {ρ:Type} (fail:ρ) (fu:Nat) (K:Bool→ρ) (d:Dc) (hf:d.sz + 60≤fu) (hs:d.sz < 1099511627776) :
  p38 fail fu K d.k d.pa d.ct d.nm d.fam d.ty.k d.ty.n d.ty.nm (Lv.rows d.ty.ls) (Tm.rows d.ty.args) d.val.k d.val.n d.val.nm (Lv.rows d.val.ls) (Tm.rows d.val.args) (d.cs.map ctRow) d.k d.pa d.ct d.nm d.fam d.ty.k d.ty.n d.ty.nm (Lv.rows d.ty.ls) (Tm.rows d.ty.args) d.val.k d.val.n d.val.nm (Lv.rows d.val.ls) (Tm.rows d.val.args) (d.cs.map ctRow)=K true:=by
 have hz:d.sz=d.nm.size + d.fam.size + d.ty.sz + d.val.sz + ctsSz d.cs:=rfl
 have hlen:=z5g d.cs
 have:=cts_same fail fu K d.cs (by omega) (by omega) d.cs.length fu 0 (by omega) (by omega)
 rw [p38,neqF rfl,cond_false,neqF rfl,cond_false,neqF rfl,cond_false,z5l,cond_false,z5l,cond_false,w2a fail _ d.ty (Nat.le_refl _) fu _ (by omega) (by omega),Bool.not_true,cond_false,w2a fail _ d.val (Nat.le_refl _) fu _ (by omega) (by omega),Bool.not_true,cond_false,neqF rfl,p38_3,cond_false]
 exact this
section
variable {ρ:Type} (fail:ρ) (fu:Nat) (bs:List UInt8) (hb:bs.length≤4000) (hfu:9000≤fu)
include hb hfu
end
def p14 {ρ:Type} (fail:ρ) (fu:Nat) (K0:EL→Int→ρ) (x0:EL):ρ :=
 K0 x0 0
def p7_1 {ρ:Type} (fail:ρ) (fu:Nat) (K0:Bool→ρ) (j78:Bool):ρ :=
 K0 j78
def p7_2 {ρ:Type} (fail:ρ) (fu:Nat) (K0:Bool→ρ) (x1 x2 x3:Int) (x4 x5:ByteArray) (x6 x7:Int) (x8:ByteArray) (x9 x10:EL) (x11 x12:Int) (x13:ByteArray) (x14 x15 x16 x17:EL) (x18 y5 y6:Int) (y7:ByteArray) (y8 y9:EL) (y12 y13:Int) (y14:EL) (j17:Bool):ρ :=
 bif j17 then (K0 true) else (p26 fail fu (fun y18=>p17 fail fu (fun y19=>p27 fail fu (fun y20=>gd (0=nilE.length) fail (gd ((nilE.length + y18.length) * 1≤35184372088832) fail (gd (((nilE++y18).length + x17.length) * 1≤35184372088832) fail (p20 fail fu (fun y21 y22 y23 y24 y25=>gd (0=nilE.length) fail (gd ((nilE.length + y19.length) * 1≤35184372088832) fail (gd (((nilE++y19).length + x17.length) * 1≤35184372088832) fail (p18 fail fu (fun y26 y27 y28 y29 y30 y31 y32=>gd (0=nilE.length) fail (gd ((nilE.length + y20.length) * 1≤35184372088832) fail (gd (((nilE++y20).length + x17.length) * 1≤35184372088832) fail (p35 fail fu (fun y33 y34 y35 y36 y37 y38 y39 y40 y41 y42 y43 y44 y45 y46 y47 y48 y49 y50=>p40 fail fu (fun y51=>gd ((0:Int)≤y51) fail (gd ((y51:Int)≤(y19.length:Nat)∨false=true∧(y51:Int)≤(y19.length:Nat)) fail (gd (((y51:Int).toNat)≤y19.length) fail (p18 fail fu (fun y52 y53 y54 y55 y56 y57 y58=>p40 fail fu (fun y59=>gd ((0:Int)≤y59) fail (gd ((y59:Int)≤(y20.length:Nat)∨false=true∧(y59:Int)≤(y20.length:Nat)) fail (gd (((y59:Int).toNat)≤y20.length) fail (p35 fail fu (fun y60 y61 y62 y63 y64 y65 y66 y67 y68 y69 y70 y71 y72 y73 y74 y75 y76 y77=>bif (z0a .eql y25 0) then (bif (z0a .eql y32 0) then (bif (z0a .eql y50 0) then (bif (z0a .eql y24 ((y18.length:Nat):Int)) then (bif (z0a .eql y31 ((y19.length:Nat):Int)) then (bif (z0a .eql y49 ((y20.length:Nat):Int)) then (p37 fail fu (fun y79=>bif y79 then (p19 fail fu (fun y80=>bif y80 then (p38 fail fu (fun y81=>bif y81 then (bif (z0a .eql y58 2) then (p7_1 fail fu K0 (z0a .eql y77 2)) else (p7_1 fail fu K0 false)) else (p7_1 fail fu K0 false)) y33 y34 y35 y36 y37 y38 y39 y40 y41 y42 y43 y44 y45 y46 y47 y48 x1 x2 x3 x4 x5 x6 x7 x8 x9 x10 x11 x12 x13 x14 x15 x16) else (p7_1 fail fu K0 false)) y26 y27 y28 y29 y30 y5 y6 y7 y8 y9) else (p7_1 fail fu K0 false)) y21 y22 y23 y12 y13 y14) else (p7_1 fail fu K0 false)) else (p7_1 fail fu K0 false)) else (p7_1 fail fu K0 false)) else (p7_1 fail fu K0 false)) else (p7_1 fail fu K0 false)) else (p7_1 fail fu K0 false)) (List.take ((y59:Int).toNat) y20))))) x18 ((y20.length:Nat):Int)) (List.take ((y51:Int).toNat) y19))))) x18 ((y19.length:Nat):Int)) ((nilE++y20)++x17))))) ((nilE++y19)++x17))))) ((nilE++y18)++x17))))) nilE x1 x2 x3 x4 x5 x6 x7 x8 x9 x10 x11 x12 x13 x14 x15 x16) nilE y5 y6 y7 y8 y9) nilE y12 y13 y14)
def p7_3 {ρ:Type} (fail:ρ) (fu:Nat) (K0:Bool→ρ) (x0:EL) (x1 x2 x3:Int) (x4 x5:ByteArray) (x6 x7:Int) (x8:ByteArray) (x9 x10:EL) (x11 x12:Int) (x13:ByteArray) (x14 x15 x16 x17:EL) (x18:Int) (j2:Bool):ρ :=
 bif j2 then (K0 true) else (p14 fail fu (fun y3 y4=>p15 fail fu (fun y5 y6 y7 y8 y9 y10 y11=>p39 fail fu (fun y12 y13 y14 y15 y16=>p16 fail fu (fun y82=>bif (!y82) then (p7_2 fail fu K0 x1 x2 x3 x4 x5 x6 x7 x8 x9 x10 x11 x12 x13 x14 x15 x16 x17 x18 y5 y6 y7 y8 y9 y12 y13 y14 true) else (gd (1≤[[(CV.v (.int .i64 y12)),(CV.v (.int .i64 y13)),(CV.sl 3 y14 none)]].length) fail (p23 fail fu (fun y83=>p7_2 fail fu K0 x1 x2 x3 x4 x5 x6 x7 x8 x9 x10 x11 x12 x13 x14 x15 x16 x17 x18 y5 y6 y7 y8 y9 y12 y13 y14 (!y83)) (List.take 1 [[(CV.v (.int .i64 y12)),(CV.v (.int .i64 y13)),(CV.sl 3 y14 none)]])))) y5 y6 y7 y8 y9) y10 y11 4) y3 y4) x0)
def p7 {ρ:Type} (fail:ρ) (fu:Nat) (K0:Bool→ρ) (x0:EL) (x1 x2 x3:Int) (x4 x5:ByteArray) (x6 x7:Int) (x8:ByteArray) (x9 x10:EL) (x11 x12:Int) (x13:ByteArray) (x14 x15 x16 x17:EL) (x18:Int):ρ :=
 p13 fail fu (fun y1=>bif (!y1) then (K0 false) else (bif (z0a .gtr ((x0.length:Nat):Int) 200) then (p7_3 fail fu K0 x0 x1 x2 x3 x4 x5 x6 x7 x8 x9 x10 x11 x12 x13 x14 x15 x16 x17 x18 true) else (bif (z0a .gtr ((x17.length:Nat):Int) 100) then (p7_3 fail fu K0 x0 x1 x2 x3 x4 x5 x6 x7 x8 x9 x10 x11 x12 x13 x14 x15 x16 x17 x18 true) else (p24 fail fu (fun y84=>p7_3 fail fu K0 x0 x1 x2 x3 x4 x5 x6 x7 x8 x9 x10 x11 x12 x13 x14 x15 x16 x17 x18 (!y84)) x1 x2 x3 x4 x5 x6 x7 x8 x9 x10 x11 x12 x13 x14 x15 x16)))) 
theorem begun6_m (m:Nat) (K:Bool→Prop):p13 (ρ:=Prop) False (m + 3000) K=K true:=by kernel_rfl
theorem z8b (m:Nat) (K:Bool→Prop):p13 (ρ:=Prop) False (m + 10000000) K=K true:=begun6_m (m + 9997000) K
section
variable {ρ:Type} (fail:ρ) (fu:Nat) (hfu:10000000≤fu)
include hfu
theorem tkLevel (l:Lv) (hl:l.good 32) (hp:l.parts≤64) (r:List UInt8) (hr:r.length≤1000) (K:Int→Int→EL→Int→Int→ρ):p20 fail fu K (encB (l.enc++r))=K l.k l.n (Lv.rows l.args) ((l.enc.length:Nat):Int) 0:=by
 have h1:=Lv.sz_parts l
 have h2:=Lv.enc_sz l
 have hb:=z8h l hl hp r
 rcases w3k (ρ:=ρ) fail fu (by omega) (l.enc++r) (by rw [List.length_append];omega) with ⟨l',r',g1,g2,g3⟩ | ⟨e,g1,g2,g3⟩
 ·rw [hb] at g1;injection g1 with g1;injection g1 with q1 q2;subst q1;exact g3 K
 ·rw [hb] at g1;cases g1
theorem tkTerm (t:Tm) (ht:t.good 100) (hp:t.parts≤2000) (r:List UInt8) (hr:r.length≤1000) (K:Int→Int→ByteArray→EL→EL→Int→Int→ρ):p18 fail fu K (encB (t.enc++r))=K t.k t.n t.nm (Lv.rows t.ls) (Tm.rows t.args) ((t.enc.length:Nat):Int) 0:=by
 have h1:=good_sz 100 t ht
 have h2:=Tm.enc_sz t (by omega)
 have hb:=z3h t ht hp r
 rcases z9f (ρ:=ρ) fail fu (by omega) (t.enc++r) (by rw [List.length_append];omega) with ⟨t',r',g1,g2,_,g3⟩ | ⟨e,g1,g2,g3⟩
 ·rw [hb] at g1;injection g1 with g1;injection g1 with q1 q2;subst q1;exact g3 K
 ·rw [hb] at g1;cases g1
theorem tkDecl (d:Dc) (hd:d.good) (r:List UInt8) (hr:r.length≤1000) (K:Int→Int→Int→ByteArray→ByteArray→Int→Int→ByteArray→EL→EL→Int→Int→ByteArray→EL→EL→EL→Int→Int→ρ):p35 fail fu K (encB (d.enc++r))=K d.k d.pa d.ct d.nm d.fam d.ty.k d.ty.n d.ty.nm (Lv.rows d.ty.ls) (Tm.rows d.ty.args) d.val.k d.val.n d.val.nm (Lv.rows d.val.ls) (Tm.rows d.val.args) (d.cs.map ctRow) ((d.enc.length:Nat):Int) 0:=by
 obtain⟨h1,h2⟩:=Dc.good_sz hd
 have hb:=w5e d hd r
 rcases z9g (ρ:=ρ) fail fu (by omega) (d.enc++r) (by rw [List.length_append];omega) with ⟨d',r',g1,g2,_,g3⟩ | ⟨e,g1,g2,g3⟩
 ·rw [hb] at g1;injection g1 with g1;injection g1 with q1 q2;subst q1;exact g3 K
 ·rw [hb] at g1;cases g1
theorem w8u (t:Tm) (ht:t.good 100) (hp:t.parts≤2000) (q:Nat) (hq:q < t.enc.length) (K:Int→Int→ByteArray→EL→EL→Int→Int→ρ):p18 fail fu K (encB (t.enc.take q))=K 0 0 ⟨#[]⟩ nilE nilE 0 2:=by
 have h1:=good_sz 100 t ht
 have h2:=Tm.enc_sz t (by omega)
 have hb:=w8w t ht hp hq
 rcases z9f (ρ:=ρ) fail fu (by omega) (t.enc.take q) (by rw [List.length_take];omega) with ⟨t',r',g1,g2,_,g3⟩ | ⟨e,g1,g2,g3⟩
 ·rw [hb] at g1;cases g1
 ·rw [hb] at g1;injection g1 with g1;subst g1;exact g3 K
theorem w8v (d:Dc) (hd:d.good) (q:Nat) (hq:q < d.enc.length) (K:Int→Int→Int→ByteArray→ByteArray→Int→Int→ByteArray→EL→EL→Int→Int→ByteArray→EL→EL→EL→Int→Int→ρ):p35 fail fu K (encB (d.enc.take q))=K 0 0 0 ⟨#[]⟩ ⟨#[]⟩ 0 0 ⟨#[]⟩ nilE nilE 0 0 ⟨#[]⟩ nilE nilE nilE 0 2:=by
 obtain⟨h1,h2⟩:=Dc.good_sz hd
 have hb:=w9t d hd hq
 rcases z9g (ρ:=ρ) fail fu (by omega) (d.enc.take q) (by rw [List.length_take];omega) with ⟨d',r',g1,g2,_,g3⟩ | ⟨e,g1,g2,g3⟩
 ·rw [hb] at g1;cases g1
 ·rw [hb] at g1;injection g1 with g1;subst g1;exact g3 K
end
theorem Tm.enc_pos (t:Tm):1≤t.enc.length:=by
 obtain⟨k,n,s,l,a⟩:=t
 have:=z8w (uv k)
 simp only [Tm.enc,List.length_append]
 omega
theorem Dc.enc_pos (d:Dc):1≤d.enc.length:=by
 have:=z8w (uv d.k)
 simp only [Dc.enc,z5o,List.length_append]
 omega
theorem w0v (b:List UInt8) (d:Dc) (rest:List UInt8) (cut:Int):∃ fu,p7 (ρ:=Prop) False fu (fun y=>y=true) (encB b) d.k d.pa d.ct d.nm d.fam d.ty.k d.ty.n d.ty.nm (Lv.rows d.ty.ls) (Tm.rows d.ty.args) d.val.k d.val.n d.val.nm (Lv.rows d.val.ls) (Tm.rows d.val.args) (d.cs.map ctRow) (encB rest) cut:=by
 by_cases hb:200 < b.length
 ·refine⟨0 + 10000000,?_⟩
  rw [p7,z8b,Bool.not_true,cond_false,z0e,gtrT (by omega),cond_true,p7_3,cond_true]
 by_cases hn:100 < rest.length
 ·refine⟨0 + 10000000,?_⟩
  rw [p7,z8b,Bool.not_true,cond_false,z0e,gtrF (by omega),cond_false,z0e,gtrT (by omega),cond_true,p7_3,cond_true]
 obtain⟨t,a1,ht,_,la,M,hany⟩:=any_any (ρ:=Prop) False b (by omega) 0 (by omega)
 obtain⟨l,a2,hl,_,_,N,hlev⟩:=w4n (ρ:=Prop) False b (by omega) _ a1 la (Nat.le_refl _) 4
 refine⟨M + N + 10000000,?_⟩
 have hany':=fun K=>hany (M + N + 10000000) (by omega) K
 have hlev':=fun K=>hlev (M + N + 10000000) (by omega) K
 have beg:=z8b (M + N)
 have hfu:10000000≤M + N + 10000000:=by omega
 generalize M + N + 10000000=fu at hany' hlev' beg hfu
 rw [p7,beg,Bool.not_true,cond_false,z0e,gtrF (by omega),cond_false,z0e,gtrF (by omega),cond_false]
 obtain⟨c0,h0,k0⟩:=w9m (ρ:=Prop) False fu (by omega) d
 dsimp only at h0
 rw [h0]
 cases c0 with
 | false=>rw [Bool.not_false,p7_3,cond_true]
 | true =>
 have dg:d.good:=k0 rfl
 rw [Bool.not_true,p7_3,cond_false,p14]
 refine (hany' _).mpr ?_
 refine (hlev' _).mpr ?_
 obtain⟨c1,h1,k1⟩:=z5p (ρ:=Prop) False fu (by omega) t
 dsimp only at h1
 rw [h1]
 cases c1 with
 | false=>rw [Bool.not_false,cond_true,p7_2,cond_true]
 | true =>
 obtain⟨tg,tp⟩:=k1 rfl
 obtain⟨c2,h2,k2⟩:=light_eq (ρ:=Prop) False fu (by omega) l
 dsimp only at h2
 rw [Bool.not_true,cond_false,gd_y (by simp),h2]
 cases c2 with
 | false=>rw [Bool.not_false,p7_2,cond_true]
 | true =>
 obtain⟨lg,lp⟩:=k2 rfl
 obtain⟨ds,de⟩:=Dc.good_sz dg
 have ls:=Lv.sz_parts l
 have le:=Lv.enc_sz l
 have ts:=good_sz 100 t tg
 have te:=Tm.enc_sz t (by omega)
 have tpos:=Tm.enc_pos t
 have dpos:=Dc.enc_pos d
 have e0:(nilE:EL)=encB []:=rfl
 have e1:=fun K=>w2x (ρ:=Prop) False fu K [] l (by omega) (by omega) (by simp only [List.length_nil];omega)
 have e2:=fun K=>w5j (ρ:=Prop) False fu K [] t (by omega) (by omega) (by simp only [List.length_nil];omega)
 have e3:=fun K=>w5k (ρ:=Prop) False fu K [] d (by omega) (by omega) (by simp only [List.length_nil];omega)
 simp only [List.nil_append] at e1 e2 e3
 obtain⟨q1,hq1,p1⟩:=w7t (ρ:=Prop) False fu cut t.enc.length (by omega) (by omega)
 obtain⟨q2,hq2,p2⟩:=w7t (ρ:=Prop) False fu cut d.enc.length (by omega) (by omega)
 have f1:=fun K=>tkLevel (ρ:=Prop) False fu hfu l lg lp rest (by omega) K
 have f2:=fun K=>tkTerm (ρ:=Prop) False fu hfu t tg tp rest (by omega) K
 have f3:=fun K=>tkDecl (ρ:=Prop) False fu hfu d dg rest (by omega) K
 have f4:=fun K=>w8u (ρ:=Prop) False fu hfu t tg tp q1 hq1 K
 have f5:=fun K=>w8v (ρ:=Prop) False fu hfu d dg q2 hq2 K
 have s1:=fun K=>k1n (ρ:=Prop) False _ l (Nat.le_refl _) fu K (by omega) (by omega)
 have s2:=fun K=>w2a (ρ:=Prop) False _ t (Nat.le_refl _) fu K (by omega) (by omega)
 have s3:=fun K=>dc_same (ρ:=Prop) False fu K d (by omega) (by omega)
 rw [z0y] at f1 f2 f3
 have n0:∀ x:EL,nilE++x=x:=fun x=>rfl
 have z0:(0:Nat)=(nilE:EL).length:=rfl
 rw [Bool.not_true,p7_2,cond_false]
 rw [e0] 
 refine (e1 _).mpr ?_
 refine (e2 _).mpr ?_
 refine (e3 _).mpr ?_
 rw [gd_y (by rfl),gd_y (by simp only [z0e,List.length_nil];omega),gd_y (by simp only [z0e,List.length_append,z9a,List.length_nil];omega)]
 refine (f1 _).mpr ?_
 rw [gd_y (by rfl),gd_y (by simp only [z0e,List.length_nil];omega),gd_y (by simp only [z0e,List.length_append,z9a,List.length_nil];omega)]
 refine (f2 _).mpr ?_
 rw [gd_y (by rfl),gd_y (by simp only [z0e,List.length_nil];omega),gd_y (by simp only [z0e,List.length_append,z9a,List.length_nil];omega)]
 refine (f3 _).mpr ?_
 rw [z0e,z0e,z0e,p1,gd_y (by omega),gd_y (by omega),gd_y (by omega),Int.toNat_natCast,w0k,f4,p2,gd_y (by omega),gd_y (by omega),gd_y (by omega),Int.toNat_natCast,w0k,f5,
  eqlT rfl,cond_true,cond_true,cond_true,eqlT rfl,cond_true,eqlT rfl,cond_true,eqlT rfl,cond_true,s1,cond_true,s2,cond_true,s3,cond_true,eqlT rfl,cond_true,p7_1]
theorem d_p14 (fu:Nat){K0:EL→Int→Prop}(L:EL→Nat)(hN:L=List.length){x0:EL}(h:p14 False fu K0 x0):Den Try.prog G0 14 [.c (.sl 1 x0 none)] (fun r bs=>(∃ (y0:EL) (y1:Int) (o0:OV),(r=.ptr [.c (.sl 1 y0 none),.c (.v (.int .i64 y1))]∧bs=[o0])∧K0 y0 y1)):=by
 obtain⟨O,hO⟩:∃ O,O=std 0 T G0 (Den Try.prog G0):=⟨_,rfl⟩
 have hLO:L=O.len:=by rw [hN,hO];rfl
 subst hLO
 refine den_h hO tiA mixed tabOk (fn:=Try.f14) (sh:=true) (by kernel_rfl) rfl rfl rfl rfl ?_
 intro Q b
 unfold p14 at h
 conv=>cbv
 rw [b]
 exact⟨x0,0,_,⟨(by subst hO;rfl),(by subst hO;rfl)⟩,h⟩
theorem d_p52 (fu:Nat){K0:Int→EL→Int→Prop}(L:EL→Nat)(hN:L=List.length){x0:EL}{x1 x2:Int}(h:p52 False fu K0 x0 x1 x2):Den Try.prog G0 52 [.ptr [.c (.sl 1 x0 none),.c (.v (.int .i64 x1))],.c (.v (.int .i64 x2))] (fun r bs=>(∃ (y0:Int) (y1:EL) (y2:Int) (o1:OV),(r=.c (.v (.int .i64 y0))∧bs=[.ptr [.c (.sl 1 y1 none),.c (.v (.int .i64 y2))],o1])∧K0 y0 y1 y2)):=by
 obtain⟨O,hO⟩:∃ O,O=std 1 T G0 (Den Try.prog G0):=⟨_,rfl⟩
 have hLO:L=O.len:=by rw [hN,hO];rfl
 subst hLO
 refine den_h hO tiA mixed tabOk (fn:=Try.f52) (sh:=true) (by kernel_rfl) rfl rfl rfl rfl ?_
 intro Q b
 unfold p52 at h
 conv=>cbv
 refine z1a hO tiA [[]] [(0,true,false),(1,true,false),(2,true,false),(3,true,false),(4,true,false),(5,true,false),(6,true,false),(7,true,false),(8,true,false),(9,true,true),(10,true,true),(11,true,true),(12,true,true),(13,true,true)] (by kernel_rfl) [0,1,18] [0] [] (fun tm m=>∃ (j1:Bool),((tm=frame 0 40 [(0,.p 0 0 0),(1,.c (.v (.int .i64 x2))),(18,.c (.v (.bool j1)))]∧m=⟨[(0,.blk 0 [.c (.sl 1 x0 none),.c (.v (.int .i64 x1))])],2⟩))∧p52_1 False fu K0 x0 x1 x2 j1) (fun L hL_1=>?_) ?_
 conv=>cbv
 refine br_h hO h (by subst hO;rfl) (fun k2 h=>?_) (fun k2 h=>?_)
 conv=>cbv
 refine br_t hO k2 ?_
 conv=>cbv
 refine br_t hO k2 ?_
 conv=>cbv
 exact hL_1 _ _ ⟨true,⟨(by (conv=>lhs;cbv)<;>(subst hO;rfl)),(by (conv=>lhs;cbv)<;>(subst hO;rfl))⟩,h⟩
 conv=>cbv
 refine br_f hO k2 ?_
 conv=>cbv
 refine br_f hO k2 ?_
 conv=>cbv
 exact hL_1 _ _ ⟨(z0a .lss x2 1),⟨(by (conv=>lhs;cbv)<;>(subst hO;rfl)),(by (conv=>lhs;cbv)<;>(subst hO;rfl))⟩,h⟩
 rintro tm m ⟨j1,hs,h⟩
 unfold p52_1 at h
 obtain⟨rfl,rfl⟩:=hs
 conv=>cbv
 refine br_h hO h (by subst hO;rfl) (fun k1 h=>?_) (fun k1 h=>?_)
 conv=>cbv
 rw [b]
 exact⟨0,x0,x1,_,⟨(by subst hO;rfl),(by subst hO;rfl)⟩,h⟩
 conv=>cbv
 refine z0c hO ?_
 conv=>cbv
 refine z0h hO tiA [[]] [(0,true,false),(1,true,false),(2,true,false),(3,true,false),(4,true,false),(5,true,false),(6,true,false),(7,true,false),(8,true,false),(9,true,false),(10,true,false),(11,true,false),(12,true,false),(13,true,false),(14,true,true)] (by kernel_rfl) ?_
 conv=>cbv
 refine and_h h (fun g=>(by subst hO;exact g)) (fun h=>?_)
 refine and_h h (fun g=>(by subst hO;exact g)) (fun h=>?_)
 obtain⟨c2,hr,h⟩:=w3u h
 refine z0p hO _ (by subst hO;exact hr) ?_
 clear hr
 conv=>cbv
 refine and_h h (fun g=>(by subst hO;exact g)) (fun h=>?_)
 refine z0c hO ?_
 conv=>cbv
 rw [b]
 exact⟨z0d .rem .i64 (IntKind.i64.wrap c2) x2,x0,z0d .add .i64 x1 1,_,⟨(by subst hO;rfl),(by subst hO;rfl)⟩,h⟩
theorem d_p152 (fu:Nat){K0:ByteArray→Int→Int→Int→Int→Int→Prop}(L:EL→Nat)(hN:L=List.length){x0:ByteArray}{x1 x2 x3 x4 x5:Int}(h:p152 False fu K0 x0 x1 x2 x3 x4 x5):Den Try.prog G0 152 [.ptr [.c (.v (.string x0)),.c (.v (.int .i64 x1)),.c (.v (.int .i64 x2)),.c (.v (.int .i64 x3)),.c (.v (.int .i64 x4)),.c (.v (.int .i64 x5))]] (fun r bs=>(∃ (y0:ByteArray) (y1 y2 y3 y4 y5:Int),(r=.tup []∧bs=[.ptr [.c (.v (.string y0)),.c (.v (.int .i64 y1)),.c (.v (.int .i64 y2)),.c (.v (.int .i64 y3)),.c (.v (.int .i64 y4)),.c (.v (.int .i64 y5))]])∧K0 y0 y1 y2 y3 y4 y5)):=by
 obtain⟨O,hO⟩:∃ O,O=std 1 T G0 (Den Try.prog G0):=⟨_,rfl⟩
 have hLO:L=O.len:=by rw [hN,hO];rfl
 subst hLO
 refine den_h hO tiA mixed tabOk (fn:=Try.f152) (sh:=true) (by kernel_rfl) rfl rfl rfl rfl ?_
 intro Q b
 unfold p152 at h
 conv=>cbv
 refine z0v hO tiA [0] [0] [] (fun (n:Nat) tm m=>∃ (z1:Int),((tm=frame 0 43 [(0,.p 0 0 0)]∧m=⟨[(0,.blk 0 [.c (.v (.string x0)),.c (.v (.int .i64 z1)),.c (.v (.int .i64 x2)),.c (.v (.int .i64 x3)),.c (.v (.int .i64 x4)),.c (.v (.int .i64 x5))])],2⟩))∧p152_2L False fu K0 x0 x2 x3 x4 x5 n z1) (fun n=>n) fu ⟨x1,⟨(by (conv=>lhs;cbv)<;>(subst hO;rfl)),(by (conv=>lhs;cbv)<;>(subst hO;rfl))⟩,h⟩ ?_
 rintro n1 tm m L ⟨z1,hs,h⟩ hLn1
 (cases n1 with
 | zero=>rw [p152_2L] at h;exact h.elim
 | succ n1 =>
 rw [p152_2L] at h
 unfold p152_2 at h
 obtain⟨rfl,rfl⟩:=hs
 conv=>cbv
 refine z1a hO tiA [[]] [(0,true,false),(1,true,false),(2,true,false),(3,true,false),(4,true,false),(5,true,false),(6,true,false),(7,true,false),(8,true,false),(9,true,false),(10,true,false),(11,true,false),(12,true,false),(13,true,false),(14,true,false),(15,true,false),(16,true,false),(17,true,false),(18,true,false),(19,true,false),(20,true,false),(21,true,false),(22,true,false),(23,true,false),(24,true,false),(25,true,false),(26,true,false),(27,true,false),(28,true,false),(29,true,false),(30,true,false),(31,true,false),(32,true,true),(33,true,false)] (by kernel_rfl) [0,35] [0] [] (fun tm m=>∃ (j2:Bool),((tm=frame 0 43 [(0,.p 0 0 0),(35,.c (.v (.bool j2)))]∧m=⟨[(0,.blk 0 [.c (.v (.string x0)),.c (.v (.int .i64 z1)),.c (.v (.int .i64 x2)),.c (.v (.int .i64 x3)),.c (.v (.int .i64 x4)),.c (.v (.int .i64 x5))])],2⟩))∧p152_1 False fu K0 (p152_2L False fu K0 x0 x2 x3 x4 x5 n1) x0 x2 x3 x4 x5 z1 j2) (fun L hL_1=>?_) ?_
 conv=>cbv
 refine br_h hO h (by subst hO;rfl) (fun k2 h=>?_) (fun k2 h=>?_)
 conv=>cbv
 refine br_t hO k2 ?_
 conv=>cbv
 refine br_t hO k2 ?_
 conv=>cbv
 refine br_t hO k2 ?_
 conv=>cbv
 refine br_t hO k2 ?_
 conv=>cbv
 refine br_t hO k2 ?_
 conv=>cbv
 refine br_t hO k2 ?_
 conv=>cbv
 refine br_t hO k2 ?_
 conv=>cbv
 refine br_t hO k2 ?_
 conv=>cbv
 refine and_h h (fun g=>(by subst hO;exact g)) (fun h=>?_)
 refine and_h h (fun g=>(by subst hO;exact g)) (fun h=>?_)
 refine br_t hO k2 ?_
 conv=>cbv
 refine br_t hO k2 ?_
 conv=>cbv
 refine br_h hO h (by subst hO;rfl) (fun k3 h=>?_) (fun k3 h=>?_)
 conv=>cbv
 refine br_t hO k3 ?_
 conv=>cbv
 refine br_t hO k3 ?_
 conv=>cbv
 refine br_t hO k3 ?_
 conv=>cbv
 refine br_t hO k3 ?_
 conv=>cbv
 refine br_t hO k3 ?_
 conv=>cbv
 refine br_t hO k3 ?_
 conv=>cbv
 refine br_t hO k3 ?_
 conv=>cbv
 refine br_t hO k3 ?_
 conv=>cbv
 refine br_t hO k3 ?_
 conv=>cbv
 refine br_t hO k2 ?_
 conv=>cbv
 refine br_t hO k3 ?_
 conv=>cbv
 refine br_t hO k2 ?_
 conv=>cbv
 exact hL_1 _ _ ⟨true,⟨(by (conv=>lhs;cbv)<;>(subst hO;rfl)),(by (conv=>lhs;cbv)<;>(subst hO;rfl))⟩,h⟩
 conv=>cbv
 refine br_f hO k3 ?_
 conv=>cbv
 refine br_f hO k3 ?_
 conv=>cbv
 refine br_f hO k3 ?_
 conv=>cbv
 refine br_f hO k3 ?_
 conv=>cbv
 refine br_f hO k3 ?_
 conv=>cbv
 refine br_f hO k3 ?_
 conv=>cbv
 refine br_f hO k3 ?_
 conv=>cbv
 refine br_f hO k3 ?_
 conv=>cbv
 refine and_h h (fun g=>(by subst hO;exact g)) (fun h=>?_)
 refine and_h h (fun g=>(by subst hO;exact g)) (fun h=>?_)
 refine br_f hO k3 ?_
 conv=>cbv
 refine br_t hO k2 ?_
 conv=>cbv
 refine br_f hO k3 ?_
 conv=>cbv
 refine br_t hO k2 ?_
 conv=>cbv
 exact hL_1 _ _ ⟨(z0a .eql ((List.getD x0.data.toList (z1:Int).toNat 0).toNat:Nat) 10),⟨(by (conv=>lhs;cbv)<;>(subst hO;rfl)),(by (conv=>lhs;cbv)<;>(subst hO;rfl))⟩,h⟩
 conv=>cbv
 refine br_f hO k2 ?_
 conv=>cbv
 refine br_f hO k2 ?_
 conv=>cbv
 refine br_f hO k2 ?_
 conv=>cbv
 refine br_f hO k2 ?_
 conv=>cbv
 refine br_f hO k2 ?_
 conv=>cbv
 refine br_f hO k2 ?_
 conv=>cbv
 refine br_f hO k2 ?_
 conv=>cbv
 refine br_f hO k2 ?_
 conv=>cbv
 refine br_f hO k2 ?_
 conv=>cbv
 refine br_f hO k2 ?_
 conv=>cbv
 refine br_f hO k2 ?_
 conv=>cbv
 refine br_f hO k2 ?_
 conv=>cbv
 exact hL_1 _ _ ⟨false,⟨(by (conv=>lhs;cbv)<;>(subst hO;rfl)),(by (conv=>lhs;cbv)<;>(subst hO;rfl))⟩,h⟩
 rintro tm m ⟨j2,hs,h⟩
 unfold p152_1 at h
 obtain⟨rfl,rfl⟩:=hs
 conv=>cbv
 refine br_h hO h (by subst hO;rfl) (fun k1 h=>?_) (fun k1 h=>?_)
 conv=>cbv
 refine z0c hO ?_
 conv=>cbv
 exact hLn1 n1 _ _ (Nat.lt_succ_self n1) ⟨z0d .add .i64 z1 1,⟨(by (conv=>lhs;cbv)<;>(subst hO;rfl)),(by (conv=>lhs;cbv)<;>(subst hO;rfl))⟩,h⟩
 conv=>cbv
 rw [b]
 exact⟨x0,z1,x2,x3,x4,x5,⟨(by subst hO;rfl),(by subst hO;rfl)⟩,h⟩)
theorem d_p145 (fu:Nat){K0:Int→ByteArray→Int→Int→Int→Int→Int→Prop}(L:EL→Nat)(hN:L=List.length){x0:ByteArray}{x1 x2 x3 x4 x5:Int}(h:p145 False fu K0 x0 x1 x2 x3 x4 x5):Den Try.prog G0 145 [.ptr [.c (.v (.string x0)),.c (.v (.int .i64 x1)),.c (.v (.int .i64 x2)),.c (.v (.int .i64 x3)),.c (.v (.int .i64 x4)),.c (.v (.int .i64 x5))]] (fun r bs=>(∃ (y0:Int) (y1:ByteArray) (y2 y3 y4 y5 y6:Int),(r=.c (.v (.int .u8 y0))∧bs=[.ptr [.c (.v (.string y1)),.c (.v (.int .i64 y2)),.c (.v (.int .i64 y3)),.c (.v (.int .i64 y4)),.c (.v (.int .i64 y5)),.c (.v (.int .i64 y6))]])∧K0 y0 y1 y2 y3 y4 y5 y6)):=by
 obtain⟨O,hO⟩:∃ O,O=std 1 T G0 (Den Try.prog G0):=⟨_,rfl⟩
 have hLO:L=O.len:=by rw [hN,hO];rfl
 subst hLO
 refine den_h hO tiA mixed tabOk (fn:=Try.f145) (sh:=true) (by kernel_rfl) rfl rfl rfl rfl ?_
 intro Q b
 unfold p145 at h
 conv=>cbv
 refine z0b hO [.ref 6] (d_p152 fu O.len hN h) ?_
 intro e Q a b
 conv=>cbv
 refine⟨by subst a hO;rfl,?_⟩
 intro r bs d
 rw [b] at d
 clear a b h
 obtain⟨y1,y2,y3,y4,y5,y6,⟨rfl,rfl⟩,h⟩:=d
 conv=>cbv
 refine z1a hO tiA [[]] [(0,true,false),(1,true,false),(2,true,false),(3,true,false),(4,true,false),(5,true,false),(6,true,false),(7,true,false),(8,true,false),(9,true,false),(10,true,false),(11,true,false),(12,true,false),(13,true,false),(14,true,false),(15,true,true),(16,true,true)] (by kernel_rfl) [0,21] [0] [] (fun tm m=>∃ (j7:Bool),((tm=frame 0 31 [(0,.p 0 0 0),(21,.c (.v (.bool j7)))]∧m=⟨[(0,.blk 0 [.c (.v (.string y1)),.c (.v (.int .i64 y2)),.c (.v (.int .i64 y3)),.c (.v (.int .i64 y4)),.c (.v (.int .i64 y5)),.c (.v (.int .i64 y6))])],2⟩))∧p145_1 False fu K0 y1 y2 y3 y4 y5 y6 j7) (fun L hL_1=>?_) ?_
 conv=>cbv
 refine br_h hO h (by subst hO;rfl) (fun k2 h=>?_) (fun k2 h=>?_)
 conv=>cbv
 refine br_t hO k2 ?_
 conv=>cbv
 refine br_t hO k2 ?_
 conv=>cbv
 refine br_t hO k2 ?_
 conv=>cbv
 refine br_t hO k2 ?_
 conv=>cbv
 refine br_t hO k2 ?_
 conv=>cbv
 refine br_t hO k2 ?_
 conv=>cbv
 refine br_t hO k2 ?_
 conv=>cbv
 refine br_t hO k2 ?_
 conv=>cbv
 refine br_t hO k2 ?_
 conv=>cbv
 refine br_t hO k2 ?_
 conv=>cbv
 exact hL_1 _ _ ⟨true,⟨(by (conv=>lhs;cbv)<;>(subst hO;rfl)),(by (conv=>lhs;cbv)<;>(subst hO;rfl))⟩,h⟩
 conv=>cbv
 refine br_f hO k2 ?_
 conv=>cbv
 refine br_f hO k2 ?_
 conv=>cbv
 refine br_f hO k2 ?_
 conv=>cbv
 refine br_f hO k2 ?_
 conv=>cbv
 refine br_f hO k2 ?_
 conv=>cbv
 refine br_f hO k2 ?_
 conv=>cbv
 refine br_f hO k2 ?_
 conv=>cbv
 refine br_f hO k2 ?_
 conv=>cbv
 refine br_f hO k2 ?_
 conv=>cbv
 refine br_f hO k2 ?_
 conv=>cbv
 exact hL_1 _ _ ⟨(z0a .geq y2 ((y1.size:Nat):Int)),⟨(by (conv=>lhs;cbv)<;>(subst hO;rfl)),(by (conv=>lhs;cbv)<;>(subst hO;rfl))⟩,h⟩
 rintro tm m ⟨j7,hs,h⟩
 unfold p145_1 at h
 obtain⟨rfl,rfl⟩:=hs
 conv=>cbv
 refine br_h hO h (by subst hO;rfl) (fun k1 h=>?_) (fun k1 h=>?_)
 conv=>cbv
 rw [b]
 exact⟨0,y1,y2,y3,y4,y5,y6,⟨(by subst hO;rfl),(by subst hO;rfl)⟩,h⟩
 conv=>cbv
 refine z0c hO ?_
 conv=>cbv
 refine z0h hO tiA [[]] [(0,true,false),(1,true,false),(2,true,false),(3,true,false),(4,true,false),(5,true,false),(6,true,false),(7,true,false),(8,true,true),(9,true,true)] (by kernel_rfl) ?_
 conv=>cbv
 refine and_h h (fun g=>(by subst hO;exact g)) (fun h=>?_)
 refine and_h h (fun g=>(by subst hO;exact g)) (fun h=>?_)
 refine z0c hO ?_
 conv=>cbv
 rw [b]
 exact⟨((List.getD y1.data.toList (y2:Int).toNat 0).toNat:Nat),y1,y2,y3,y4,y5,y6,⟨(by subst hO;rfl),(by subst hO;rfl)⟩,h⟩
theorem d_p146 (fu:Nat){K0:Bool→Prop}(L:EL→Nat)(hN:L=List.length){x0:Int}(h:p146 False fu K0 x0):Den Try.prog G0 146 [.c (.v (.int .u8 x0))] (fun r bs=>(∃ (y0:Bool) (o0:OV),(r=.c (.v (.bool y0))∧bs=[o0])∧K0 y0)):=by
 obtain⟨O,hO⟩:∃ O,O=std 0 T G0 (Den Try.prog G0):=⟨_,rfl⟩
 have hLO:L=O.len:=by rw [hN,hO];rfl
 subst hLO
 refine den_h hO tiA mixed tabOk (fn:=Try.f146) (sh:=true) (by kernel_rfl) rfl rfl rfl rfl ?_
 intro Q b
 unfold p146 at h
 conv=>cbv
 refine z0q hO tiA [2] [] [] (fun tm m=>∃ (j1:Bool),((tm=frame 0 17 [(2,.c (.v (.bool j1)))]∧m=⟨[],1⟩))∧p146_1 False fu K0 j1) (fun L hL_1=>?_) ?_
 conv=>cbv
 refine br_h hO h (by subst hO;rfl) (fun k1 h=>?_) (fun k1 h=>?_)
 conv=>cbv
 refine br_t hO k1 ?_
 conv=>cbv
 refine br_t hO k1 ?_
 conv=>cbv
 refine br_h hO h (by subst hO;rfl) (fun k2 h=>?_) (fun k2 h=>?_)
 conv=>cbv
 refine br_t hO k2 ?_
 conv=>cbv
 refine br_t hO k2 ?_
 conv=>cbv
 refine br_t hO k2 ?_
 conv=>cbv
 refine br_t hO k2 ?_
 conv=>cbv
 exact hL_1 _ _ ⟨true,⟨(by (conv=>lhs;cbv)<;>(subst hO;rfl)),(by (conv=>lhs;cbv)<;>(subst hO;rfl))⟩,h⟩
 conv=>cbv
 refine br_f hO k2 ?_
 conv=>cbv
 refine br_f hO k2 ?_
 conv=>cbv
 refine br_h hO h (by subst hO;rfl) (fun k3 h=>?_) (fun k3 h=>?_)
 conv=>cbv
 refine br_t hO k3 ?_
 conv=>cbv
 refine br_f hO k2 ?_
 conv=>cbv
 refine br_t hO k3 ?_
 conv=>cbv
 refine br_f hO k2 ?_
 conv=>cbv
 exact hL_1 _ _ ⟨(z0a .leq x0 90),⟨(by (conv=>lhs;cbv)<;>(subst hO;rfl)),(by (conv=>lhs;cbv)<;>(subst hO;rfl))⟩,h⟩
 conv=>cbv
 refine br_f hO k3 ?_
 conv=>cbv
 refine br_f hO k2 ?_
 conv=>cbv
 refine br_f hO k3 ?_
 conv=>cbv
 refine br_f hO k2 ?_
 conv=>cbv
 exact hL_1 _ _ ⟨false,⟨(by (conv=>lhs;cbv)<;>(subst hO;rfl)),(by (conv=>lhs;cbv)<;>(subst hO;rfl))⟩,h⟩
 conv=>cbv
 refine br_f hO k1 ?_
 conv=>cbv
 refine br_f hO k1 ?_
 conv=>cbv
 refine br_f hO rfl ?_
 conv=>cbv
 refine br_f hO rfl ?_
 conv=>cbv
 refine br_f hO rfl ?_
 conv=>cbv
 refine br_h hO h (by subst hO;rfl) (fun k4 h=>?_) (fun k4 h=>?_)
 conv=>cbv
 refine br_t hO k4 ?_
 conv=>cbv
 refine br_f hO rfl ?_
 conv=>cbv
 refine br_t hO k4 ?_
 conv=>cbv
 refine br_f hO rfl ?_
 conv=>cbv
 exact hL_1 _ _ ⟨(z0a .leq x0 90),⟨(by (conv=>lhs;cbv)<;>(subst hO;rfl)),(by (conv=>lhs;cbv)<;>(subst hO;rfl))⟩,h⟩
 conv=>cbv
 refine br_f hO k4 ?_
 conv=>cbv
 refine br_f hO rfl ?_
 conv=>cbv
 refine br_f hO k4 ?_
 conv=>cbv
 refine br_f hO rfl ?_
 conv=>cbv
 exact hL_1 _ _ ⟨false,⟨(by (conv=>lhs;cbv)<;>(subst hO;rfl)),(by (conv=>lhs;cbv)<;>(subst hO;rfl))⟩,h⟩
 rintro tm m ⟨j1,hs,h⟩
 unfold p146_1 at h
 obtain⟨rfl,rfl⟩:=hs
 conv=>cbv
 rw [b]
 exact⟨j1,_,⟨(by subst hO;rfl),(by subst hO;rfl)⟩,h⟩
theorem d_p147 (fu:Nat){K0:ByteArray→Int→Int→Int→Int→Int→Prop}(L:EL→Nat)(hN:L=List.length){x0:ByteArray}{x1 x2 x3 x4 x5 x6 x7:Int}(h:p147 False fu K0 x0 x1 x2 x3 x4 x5 x6 x7):Den Try.prog G0 147 [.ptr [.c (.v (.string x0)),.c (.v (.int .i64 x1)),.c (.v (.int .i64 x2)),.c (.v (.int .i64 x3)),.c (.v (.int .i64 x4)),.c (.v (.int .i64 x5))],.c (.v (.int .i64 x6)),.c (.v (.int .i64 x7))] (fun r bs=>(∃ (y0:ByteArray) (y1 y2 y3 y4 y5:Int) (o1 o2:OV),(r=.tup []∧bs=[.ptr [.c (.v (.string y0)),.c (.v (.int .i64 y1)),.c (.v (.int .i64 y2)),.c (.v (.int .i64 y3)),.c (.v (.int .i64 y4)),.c (.v (.int .i64 y5))],o1,o2])∧K0 y0 y1 y2 y3 y4 y5)):=by
 obtain⟨O,hO⟩:∃ O,O=std 1 T G0 (Den Try.prog G0):=⟨_,rfl⟩
 have hLO:L=O.len:=by rw [hN,hO];rfl
 subst hLO
 refine den_h hO tiA mixed tabOk (fn:=Try.f147) (sh:=true) (by kernel_rfl) rfl rfl rfl rfl ?_
 intro Q b
 unfold p147 at h
 conv=>cbv
 refine z0f hO tiA h (by subst hO;rfl) [] [0] [] (fun tm m=>∃ (j1:Int) (j2:Int),((tm=frame 0 19 []∧m=⟨[(0,.blk 0 [.c (.v (.string x0)),.c (.v (.int .i64 x1)),.c (.v (.int .i64 j1)),.c (.v (.int .i64 j2)),.c (.v (.int .i64 x4)),.c (.v (.int .i64 x5))])],2⟩))∧p147_1 False fu K0 x0 x1 x4 x5 j1 j2) (fun k1 h L hL_1=>?_) (fun k1 h L hL_1=>?_) ?_
 conv=>cbv
 exact hL_1 _ _ ⟨x6,x7,⟨(by (conv=>lhs;cbv)<;>(subst hO;rfl)),(by (conv=>lhs;cbv)<;>(subst hO;rfl))⟩,h⟩
 conv=>cbv
 exact hL_1 _ _ ⟨x2,x3,⟨(by (conv=>lhs;cbv)<;>(subst hO;rfl)),(by (conv=>lhs;cbv)<;>(subst hO;rfl))⟩,h⟩
 rintro tm m ⟨j1,j2,hs,h⟩
 unfold p147_1 at h
 obtain⟨rfl,rfl⟩:=hs
 conv=>cbv
 rw [b]
 exact⟨x0,x1,j1,j2,x4,x5,_,_,⟨(by subst hO;rfl),(by subst hO;rfl)⟩,h⟩
theorem d_p154 (fu:Nat){K0:Bool→Prop}(L:EL→Nat)(hN:L=List.length){x0:Int}(h:p154 False fu K0 x0):Den Try.prog G0 154 [.c (.v (.int .u8 x0))] (fun r bs=>(∃ (y0:Bool) (o0:OV),(r=.c (.v (.bool y0))∧bs=[o0])∧K0 y0)):=by
 obtain⟨O,hO⟩:∃ O,O=std 0 T G0 (Den Try.prog G0):=⟨_,rfl⟩
 have hLO:L=O.len:=by rw [hN,hO];rfl
 subst hLO
 refine den_h hO tiA mixed tabOk (fn:=Try.f154) (sh:=true) (by kernel_rfl) rfl rfl rfl rfl ?_
 intro Q b
 unfold p154 at h
 conv=>cbv
 refine z0q hO tiA [2] [] [] (fun tm m=>∃ (j1:Bool),((tm=frame 0 9 [(2,.c (.v (.bool j1)))]∧m=⟨[],1⟩))∧p154_1 False fu K0 j1) (fun L hL_1=>?_) ?_
 conv=>cbv
 refine br_h hO h (by subst hO;rfl) (fun k1 h=>?_) (fun k1 h=>?_)
 conv=>cbv
 refine br_t hO k1 ?_
 conv=>cbv
 refine br_t hO k1 ?_
 conv=>cbv
 exact hL_1 _ _ ⟨(z0a .leq x0 57),⟨(by (conv=>lhs;cbv)<;>(subst hO;rfl)),(by (conv=>lhs;cbv)<;>(subst hO;rfl))⟩,h⟩
 conv=>cbv
 refine br_f hO k1 ?_
 conv=>cbv
 refine br_f hO k1 ?_
 conv=>cbv
 exact hL_1 _ _ ⟨false,⟨(by (conv=>lhs;cbv)<;>(subst hO;rfl)),(by (conv=>lhs;cbv)<;>(subst hO;rfl))⟩,h⟩
 rintro tm m ⟨j1,hs,h⟩
 unfold p154_1 at h
 obtain⟨rfl,rfl⟩:=hs
 conv=>cbv
 rw [b]
 exact⟨j1,_,⟨(by subst hO;rfl),(by subst hO;rfl)⟩,h⟩
theorem d_p153 (fu:Nat){K0:Int→Prop}(L:EL→Nat)(hN:L=List.length){x0:ByteArray}(h:p153 False fu K0 x0):Den Try.prog G0 153 [.c (.v (.string x0))] (fun r bs=>(∃ (y0:Int) (o0:OV),(r=.c (.v (.int .i64 y0))∧bs=[o0])∧K0 y0)):=by
 obtain⟨O,hO⟩:∃ O,O=std 0 T G0 (Den Try.prog G0):=⟨_,rfl⟩
 have hLO:L=O.len:=by rw [hN,hO];rfl
 subst hLO
 refine den_h hO tiA mixed tabOk (fn:=Try.f153) (sh:=true) (by kernel_rfl) rfl rfl rfl rfl ?_
 intro Q b
 unfold p153 at h
 conv=>cbv
 refine z0q hO tiA [0,12] [] [] (fun tm m=>∃ (j1:Bool),((tm=frame 0 59 [(0,.c (.v (.string x0))),(12,.c (.v (.bool j1)))]∧m=⟨[],1⟩))∧p153_5 False fu K0 x0 j1) (fun L hL_5=>?_) ?_
 conv=>cbv
 refine br_h hO h (by subst hO;rfl) (fun k9 h=>?_) (fun k9 h=>?_)
 conv=>cbv
 refine br_t hO k9 ?_
 conv=>cbv
 refine br_t hO k9 ?_
 conv=>cbv
 refine br_t hO k9 ?_
 conv=>cbv
 refine br_t hO k9 ?_
 conv=>cbv
 exact hL_5 _ _ ⟨true,⟨(by (conv=>lhs;cbv)<;>(subst hO;rfl)),(by (conv=>lhs;cbv)<;>(subst hO;rfl))⟩,h⟩
 conv=>cbv
 refine br_f hO k9 ?_
 conv=>cbv
 refine and_h h (fun g=>(by subst hO;exact g)) (fun h=>?_)
 refine and_h h (fun g=>(by subst hO;exact g)) (fun h=>?_)
 refine br_f hO k9 ?_
 conv=>cbv
 refine z0b hO [.shut] (d_p146 fu O.len hN h) ?_
 intro e Q a b
 conv=>cbv
 refine⟨by subst a hO;rfl,?_⟩
 intro r bs d
 rw [b] at d
 clear a b h
 obtain⟨y9,_,⟨rfl,rfl⟩,h⟩:=d
 conv=>cbv
 refine br_f hO k9 ?_
 conv=>cbv
 refine br_f hO k9 ?_
 conv=>cbv
 exact hL_5 _ _ ⟨(!y9),⟨(by (conv=>lhs;cbv)<;>(subst hO;rfl)),(by (conv=>lhs;cbv)<;>(subst hO;rfl))⟩,h⟩
 rintro tm m ⟨j1,hs,h⟩
 unfold p153_5 at h
 obtain⟨rfl,rfl⟩:=hs
 conv=>cbv
 refine br_h hO h (by subst hO;rfl) (fun k1 h=>?_) (fun k1 h=>?_)
 conv=>cbv
 rw [b]
 exact⟨0,_,⟨(by subst hO;rfl),(by subst hO;rfl)⟩,h⟩
 conv=>cbv
 refine z0c hO ?_
 conv=>cbv
 refine z0v hO tiA [0,3] [] [] (fun (n:Nat) tm m=>∃ (z2:Int),((tm=frame 0 59 [(0,.c (.v (.string x0))),(3,.c (.v (.int .i64 z2)))]∧m=⟨[],1⟩))∧p153_4L False fu K0 x0 n z2) (fun n=>n) fu ⟨1,⟨(by (conv=>lhs;cbv)<;>(subst hO;rfl)),(by (conv=>lhs;cbv)<;>(subst hO;rfl))⟩,h⟩ ?_
 rintro n1 tm m L ⟨z2,hs,h⟩ hLn1
 (cases n1 with
 | zero=>rw [p153_4L] at h;exact h.elim
 | succ n1 =>
 rw [p153_4L] at h
 unfold p153_4 at h
 obtain⟨rfl,rfl⟩:=hs
 conv=>cbv
 refine br_h hO h (by subst hO;rfl) (fun k2 h=>?_) (fun k2 h=>?_)
 conv=>cbv
 refine z0c hO ?_
 conv=>cbv
 refine z0q hO tiA [0,3,18] [] [] (fun tm m=>∃ (j3:Bool),((tm=frame 0 59 [(0,.c (.v (.string x0))),(3,.c (.v (.int .i64 z2))),(18,.c (.v (.bool j3)))]∧m=⟨[],1⟩))∧p153_3 False fu K0 (p153_4L False fu K0 x0 n1) x0 z2 j3) (fun L hL_3=>?_) ?_
 conv=>cbv
 refine and_h h (fun g=>(by subst hO;exact g)) (fun h=>?_)
 refine and_h h (fun g=>(by subst hO;exact g)) (fun h=>?_)
 refine z0b hO [.shut] (d_p146 fu O.len hN h) ?_
 intro e Q a b
 conv=>cbv
 refine⟨by subst a hO;rfl,?_⟩
 intro r bs d
 rw [b] at d
 clear a b h
 obtain⟨y7,_,⟨rfl,rfl⟩,h⟩:=d
 conv=>cbv
 refine br_h hO h (by subst hO;rfl) (fun k7 h=>?_) (fun k7 h=>?_)
 conv=>cbv
 refine br_t hO k7 ?_
 conv=>cbv
 refine br_t hO k7 ?_
 conv=>cbv
 refine br_t hO k7 ?_
 conv=>cbv
 refine br_t hO k7 ?_
 conv=>cbv
 refine br_t hO rfl ?_
 conv=>cbv
 refine br_t hO rfl ?_
 conv=>cbv
 refine br_t hO rfl ?_
 conv=>cbv
 refine br_t hO rfl ?_
 conv=>cbv
 refine br_t hO rfl ?_
 conv=>cbv
 exact hL_3 _ _ ⟨true,⟨(by (conv=>lhs;cbv)<;>(subst hO;rfl)),(by (conv=>lhs;cbv)<;>(subst hO;rfl))⟩,h⟩
 conv=>cbv
 refine br_f hO k7 ?_
 conv=>cbv
 refine br_f hO k7 ?_
 conv=>cbv
 refine and_h h (fun g=>(by subst hO;exact g)) (fun h=>?_)
 refine and_h h (fun g=>(by subst hO;exact g)) (fun h=>?_)
 refine br_f hO k7 ?_
 conv=>cbv
 refine z0b hO [.shut] (d_p154 fu O.len hN h) ?_
 intro e Q a b
 conv=>cbv
 refine⟨by subst a hO;rfl,?_⟩
 intro r bs d
 rw [b] at d
 clear a b h
 obtain⟨y8,_,⟨rfl,rfl⟩,h⟩:=d
 conv=>cbv
 refine br_f hO k7 ?_
 conv=>cbv
 refine br_h hO h (by subst hO;rfl) (fun k8 h=>?_) (fun k8 h=>?_)
 conv=>cbv
 refine br_t hO k8 ?_
 conv=>cbv
 refine br_t hO k8 ?_
 conv=>cbv
 refine br_t hO k8 ?_
 conv=>cbv
 refine br_t hO k8 ?_
 conv=>cbv
 exact hL_3 _ _ ⟨true,⟨(by (conv=>lhs;cbv)<;>(subst hO;rfl)),(by (conv=>lhs;cbv)<;>(subst hO;rfl))⟩,h⟩
 conv=>cbv
 refine br_f hO k8 ?_
 conv=>cbv
 refine br_f hO k8 ?_
 conv=>cbv
 refine and_h h (fun g=>(by subst hO;exact g)) (fun h=>?_)
 refine and_h h (fun g=>(by subst hO;exact g)) (fun h=>?_)
 refine br_f hO k8 ?_
 conv=>cbv
 refine br_f hO k8 ?_
 conv=>cbv
 exact hL_3 _ _ ⟨(z0a .eql ((List.getD x0.data.toList (z2:Int).toNat 0).toNat:Nat) 95),⟨(by (conv=>lhs;cbv)<;>(subst hO;rfl)),(by (conv=>lhs;cbv)<;>(subst hO;rfl))⟩,h⟩
 rintro tm m ⟨j3,hs,h⟩
 unfold p153_3 at h
 obtain⟨rfl,rfl⟩:=hs
 conv=>cbv
 refine z0f hO tiA h (by subst hO;rfl) [0,3] [] [] (fun tm m=>∃ (j4:Int),((tm=frame 0 59 [(0,.c (.v (.string x0))),(3,.c (.v (.int .i64 j4)))]∧m=⟨[],1⟩))∧p153_1 False fu K0 (p153_4L False fu K0 x0 n1) j4) (fun k3 h L hL_1=>?_) (fun k3 h L hL_1=>?_) ?_
 conv=>cbv
 exact hL_1 _ _ ⟨z0d .add .i64 z2 1,⟨(by (conv=>lhs;cbv)<;>(subst hO;rfl)),(by (conv=>lhs;cbv)<;>(subst hO;rfl))⟩,h⟩
 conv=>cbv
 refine z0q hO tiA [0,3,37] [] [] (fun tm m=>∃ (j5:Bool),((tm=frame 0 59 [(0,.c (.v (.string x0))),(3,.c (.v (.int .i64 z2))),(37,.c (.v (.bool j5)))]∧m=⟨[],1⟩))∧p153_2 False fu K0 (p153_4L False fu K0 x0 n1) z2 j5) (fun L hL_2=>?_) ?_
 conv=>cbv
 refine and_h h (fun g=>(by subst hO;exact g)) (fun h=>?_)
 refine and_h h (fun g=>(by subst hO;exact g)) (fun h=>?_)
 refine br_h hO h (by subst hO;rfl) (fun k5 h=>?_) (fun k5 h=>?_)
 conv=>cbv
 refine br_t hO k5 ?_
 conv=>cbv
 refine br_t hO k5 ?_
 conv=>cbv
 refine br_t hO k5 ?_
 conv=>cbv
 refine br_t hO k5 ?_
 conv=>cbv
 refine br_t hO k5 ?_
 conv=>cbv
 refine br_h hO h (by subst hO;rfl) (fun k6 h=>?_) (fun k6 h=>?_)
 conv=>cbv
 refine br_t hO k6 ?_
 conv=>cbv
 refine br_t hO k6 ?_
 conv=>cbv
 refine br_t hO k6 ?_
 conv=>cbv
 refine and_h h (fun g=>(by subst hO;exact g)) (fun h=>?_)
 refine and_h h (fun g=>(by subst hO;exact g)) (fun h=>?_)
 refine br_t hO k6 ?_
 conv=>cbv
 refine z0b hO [.shut] (d_p146 fu O.len hN h) ?_
 intro e Q a b
 conv=>cbv
 refine⟨by subst a hO;rfl,?_⟩
 intro r bs d
 rw [b] at d
 clear a b h
 obtain⟨y6,_,⟨rfl,rfl⟩,h⟩:=d
 conv=>cbv
 refine br_t hO k6 ?_
 conv=>cbv
 exact hL_2 _ _ ⟨y6,⟨(by (conv=>lhs;cbv)<;>(subst hO;rfl)),(by (conv=>lhs;cbv)<;>(subst hO;rfl))⟩,h⟩
 conv=>cbv
 refine br_f hO k6 ?_
 conv=>cbv
 refine br_f hO k6 ?_
 conv=>cbv
 refine br_f hO k6 ?_
 conv=>cbv
 refine br_f hO k6 ?_
 conv=>cbv
 refine br_f hO k6 ?_
 conv=>cbv
 exact hL_2 _ _ ⟨false,⟨(by (conv=>lhs;cbv)<;>(subst hO;rfl)),(by (conv=>lhs;cbv)<;>(subst hO;rfl))⟩,h⟩
 conv=>cbv
 refine br_f hO k5 ?_
 conv=>cbv
 refine br_f hO k5 ?_
 conv=>cbv
 refine br_f hO k5 ?_
 conv=>cbv
 refine br_f hO k5 ?_
 conv=>cbv
 refine br_f hO k5 ?_
 conv=>cbv
 refine br_f hO rfl ?_
 conv=>cbv
 refine br_f hO rfl ?_
 conv=>cbv
 refine br_f hO rfl ?_
 conv=>cbv
 refine br_f hO rfl ?_
 conv=>cbv
 refine br_f hO rfl ?_
 conv=>cbv
 refine br_f hO rfl ?_
 conv=>cbv
 exact hL_2 _ _ ⟨false,⟨(by (conv=>lhs;cbv)<;>(subst hO;rfl)),(by (conv=>lhs;cbv)<;>(subst hO;rfl))⟩,h⟩
 rintro tm m ⟨j5,hs,h⟩
 unfold p153_2 at h
 obtain⟨rfl,rfl⟩:=hs
 conv=>cbv
 refine br_h hO h (by subst hO;rfl) (fun k4 h=>?_) (fun k4 h=>?_)
 conv=>cbv
 refine z0c hO ?_
 conv=>cbv
 exact hL_1 _ _ ⟨z0d .add .i64 z2 1,⟨(by (conv=>lhs;cbv)<;>(subst hO;rfl)),(by (conv=>lhs;cbv)<;>(subst hO;rfl))⟩,h⟩
 conv=>cbv
 rw [b]
 exact⟨z2,_,⟨(by subst hO;rfl),(by subst hO;rfl)⟩,h⟩
 rintro tm m ⟨j4,hs,h⟩
 unfold p153_1 at h
 obtain⟨rfl,rfl⟩:=hs
 conv=>cbv
 exact hLn1 n1 _ _ (Nat.lt_succ_self n1) ⟨j4,⟨(by (conv=>lhs;cbv)<;>(subst hO;rfl)),(by (conv=>lhs;cbv)<;>(subst hO;rfl))⟩,h⟩
 conv=>cbv
 rw [b]
 exact⟨z2,_,⟨(by subst hO;rfl),(by subst hO;rfl)⟩,h⟩)
theorem d_p157 (fu:Nat){K0:Int→Int→EL→ByteArray→Int→Int→Int→Int→Int→Prop}(L:EL→Nat)(hN:L=List.length){x0:ByteArray}{x1 x2 x3 x4 x5:Int}(h:p157 False fu K0 x0 x1 x2 x3 x4 x5):Den Try.prog G0 157 [.ptr [.c (.v (.string x0)),.c (.v (.int .i64 x1)),.c (.v (.int .i64 x2)),.c (.v (.int .i64 x3)),.c (.v (.int .i64 x4)),.c (.v (.int .i64 x5))]] (fun r bs=>(∃ (y0 y1:Int) (y2:EL) (y3:ByteArray) (y4 y5 y6 y7 y8:Int),(r=.agg [.c (.v (.int .i64 y0)),.c (.v (.int .i64 y1)),.c (.sl 3 y2 none)]∧bs=[.ptr [.c (.v (.string y3)),.c (.v (.int .i64 y4)),.c (.v (.int .i64 y5)),.c (.v (.int .i64 y6)),.c (.v (.int .i64 y7)),.c (.v (.int .i64 y8))]])∧K0 y0 y1 y2 y3 y4 y5 y6 y7 y8)):=by
 obtain⟨O,hO⟩:∃ O,O=std 1 T G0 (Den Try.prog G0):=⟨_,rfl⟩
 have hLO:L=O.len:=by rw [hN,hO];rfl
 subst hLO
 refine den_h hO tiA mixed tabOk (fn:=Try.f157) (sh:=true) (by kernel_rfl) rfl rfl rfl rfl ?_
 intro Q b
 unfold p157 at h
 conv=>cbv
 refine z1a hO tiA [[],[]] [(0,true,false),(1,true,false),(2,true,false),(3,true,false),(4,true,false),(5,true,false),(6,true,false),(7,true,false),(8,true,false),(9,true,false),(10,true,false),(11,true,false),(12,true,false),(13,true,false),(14,true,false),(15,true,false),(16,true,false),(17,true,false),(18,true,false),(19,true,true),(20,false,true),(21,true,true),(22,true,true)] (by kernel_rfl) [0,2,26] [0,3000] [] (fun tm m=>∃ (j1:Bool),((tm=frame 0 62 [(0,.p 0 0 0),(2,.p 3000 1 0),(26,.c (.v (.bool j1)))]∧m=⟨[(0,.blk 0 [.c (.v (.string x0)),.c (.v (.int .i64 x1)),.c (.v (.int .i64 x2)),.c (.v (.int .i64 x3)),.c (.v (.int .i64 x4)),.c (.v (.int .i64 x5))]),(3000,.blk 1 [.c (.v (.int .i64 0)),.c (.v (.int .i64 0)),.c (.sl 3 [] (some []))])],2⟩))∧p157_2 False fu K0 x0 x1 x2 x3 x4 x5 j1) (fun L hL_2=>?_) ?_
 conv=>cbv
 refine br_h hO h (by subst hO;rfl) (fun k3 h=>?_) (fun k3 h=>?_)
 conv=>cbv
 refine br_t hO k3 ?_
 conv=>cbv
 refine br_t hO k3 ?_
 conv=>cbv
 refine br_t hO k3 ?_
 conv=>cbv
 refine br_t hO k3 ?_
 conv=>cbv
 refine br_t hO k3 ?_
 conv=>cbv
 refine br_t hO k3 ?_
 conv=>cbv
 refine br_t hO k3 ?_
 conv=>cbv
 refine br_t hO k3 ?_
 conv=>cbv
 refine br_t hO k3 ?_
 conv=>cbv
 refine br_t hO k3 ?_
 conv=>cbv
 refine br_t hO k3 ?_
 conv=>cbv
 exact hL_2 _ _ ⟨true,⟨(by (conv=>lhs;cbv)<;>(subst hO;rfl)),(by (conv=>lhs;cbv)<;>(subst hO;rfl))⟩,h⟩
 conv=>cbv
 refine br_f hO k3 ?_
 conv=>cbv
 refine br_f hO k3 ?_
 conv=>cbv
 refine br_f hO k3 ?_
 conv=>cbv
 refine br_f hO k3 ?_
 conv=>cbv
 refine br_f hO k3 ?_
 conv=>cbv
 refine br_f hO k3 ?_
 conv=>cbv
 refine br_f hO k3 ?_
 conv=>cbv
 refine br_f hO k3 ?_
 conv=>cbv
 refine and_h h (fun g=>(by subst hO;exact g)) (fun h=>?_)
 refine and_h h (fun g=>(by subst hO;exact g)) (fun h=>?_)
 refine br_f hO k3 ?_
 conv=>cbv
 refine z0b hO [.shut] (d_p154 fu O.len hN h) ?_
 intro e Q a b
 conv=>cbv
 refine⟨by subst a hO;rfl,?_⟩
 intro r bs d
 rw [b] at d
 clear a b h
 obtain⟨y21,_,⟨rfl,rfl⟩,h⟩:=d
 conv=>cbv
 refine br_f hO k3 ?_
 conv=>cbv
 refine br_f hO k3 ?_
 conv=>cbv
 exact hL_2 _ _ ⟨(!y21),⟨(by (conv=>lhs;cbv)<;>(subst hO;rfl)),(by (conv=>lhs;cbv)<;>(subst hO;rfl))⟩,h⟩
 rintro tm m ⟨j1,hs,h⟩
 unfold p157_2 at h
 obtain⟨rfl,rfl⟩:=hs
 conv=>cbv
 refine br_h hO h (by subst hO;rfl) (fun k1 h=>?_) (fun k1 h=>?_)
 conv=>cbv
 refine z0b hO [.ref 6,.shut,.shut] (d_p147 fu O.len hN h) ?_
 intro e Q a b
 conv=>cbv
 refine⟨by subst a hO;rfl,?_⟩
 intro r bs d
 rw [b] at d
 clear a b h
 obtain⟨y2,y3,y4,y5,y6,y7,_,_,⟨rfl,rfl⟩,h⟩:=d
 conv=>cbv
 rw [b]
 exact⟨0,0,nilE,y2,y3,y4,y5,y6,y7,⟨(by subst hO;rfl),(by subst hO;rfl)⟩,h⟩
 conv=>cbv
 refine z0c hO ?_
 conv=>cbv
 refine z0h hO tiA [[]] [(0,true,false),(1,true,false),(2,true,false),(3,true,false),(4,true,false),(5,true,false),(6,true,false),(7,true,false),(8,true,false),(9,true,false),(10,true,false),(11,true,true)] (by kernel_rfl) ?_
 conv=>cbv
 refine and_h h (fun g=>(by subst hO;exact g)) (fun h=>?_)
 refine and_h h (fun g=>(by subst hO;exact g)) (fun h=>?_)
 refine z0c hO ?_
 conv=>cbv
 refine z0f hO tiA h (by subst hO;rfl) [0,2,3] [0,3000] [] (fun tm m=>∃ (j8:ByteArray) (j9:Int) (j10:Int) (j11:Int) (j12:Int) (j13:Int) (j14:Int),((tm=frame 0 62 [(0,.p 0 0 0),(2,.p 3000 1 0),(3,.c (.v (.int .i64 j14)))]∧m=⟨[(0,.blk 0 [.c (.v (.string j8)),.c (.v (.int .i64 j9)),.c (.v (.int .i64 j10)),.c (.v (.int .i64 j11)),.c (.v (.int .i64 j12)),.c (.v (.int .i64 j13))]),(3000,.blk 1 [.c (.v (.int .i64 0)),.c (.v (.int .i64 0)),.c (.sl 3 [] (some []))])],2⟩))∧p157_1 False fu K0 j8 j9 j10 j11 j12 j13 j14) (fun k2 h L hL_1=>?_) (fun k2 h L hL_1=>?_) ?_
 conv=>cbv
 refine z0b hO [.ref 6,.shut,.shut] (d_p147 fu O.len hN h) ?_
 intro e Q a b
 conv=>cbv
 refine⟨by subst a hO;rfl,?_⟩
 intro r bs d
 rw [b] at d
 clear a b h
 obtain⟨y15,y16,y17,y18,y19,y20,_,_,⟨rfl,rfl⟩,h⟩:=d
 conv=>cbv
 exact hL_1 _ _ ⟨y15,y16,y17,y18,y19,y20,IntKind.i64.wrap (z0d .sub .u8 ((List.getD x0.data.toList (x1:Int).toNat 0).toNat:Nat) 48),⟨(by (conv=>lhs;cbv)<;>(subst hO;rfl)),(by (conv=>lhs;cbv)<;>(subst hO;rfl))⟩,h⟩
 conv=>cbv
 exact hL_1 _ _ ⟨x0,x1,x2,x3,x4,x5,IntKind.i64.wrap (z0d .sub .u8 ((List.getD x0.data.toList (x1:Int).toNat 0).toNat:Nat) 48),⟨(by (conv=>lhs;cbv)<;>(subst hO;rfl)),(by (conv=>lhs;cbv)<;>(subst hO;rfl))⟩,h⟩
 rintro tm m ⟨j8,j9,j10,j11,j12,j13,j14,hs,h⟩
 unfold p157_1 at h
 obtain⟨rfl,rfl⟩:=hs
 conv=>cbv
 rw [b]
 exact⟨4,j14,nilE,j8,z0d .add .i64 j9 1,j10,j11,j12,j13,⟨(by subst hO;rfl),(by subst hO;rfl)⟩,h⟩
def D_p156 (fu:Nat):Prop:=∀ {K0:Int→Int→EL→ByteArray→Int→Int→Int→Int→Int→Prop} (L:EL→Nat) (_:L=List.length) {x0:ByteArray} {x1 x2 x3 x4 x5 x6:Int} (_:p156 False fu K0 x0 x1 x2 x3 x4 x5 x6),Den Try.prog G0 156 [.ptr [.c (.v (.string x0)),.c (.v (.int .i64 x1)),.c (.v (.int .i64 x2)),.c (.v (.int .i64 x3)),.c (.v (.int .i64 x4)),.c (.v (.int .i64 x5))],.c (.v (.int .i64 x6))] (fun r bs=>(∃ (y0 y1:Int) (y2:EL) (y3:ByteArray) (y4 y5 y6 y7 y8:Int) (o1:OV),(r=.agg [.c (.v (.int .i64 y0)),.c (.v (.int .i64 y1)),.c (.sl 3 y2 none)]∧bs=[.ptr [.c (.v (.string y3)),.c (.v (.int .i64 y4)),.c (.v (.int .i64 y5)),.c (.v (.int .i64 y6)),.c (.v (.int .i64 y7)),.c (.v (.int .i64 y8))],o1])∧K0 y0 y1 y2 y3 y4 y5 y6 y7 y8))
theorem b_p156 (fu:Nat)(ih_p156:D_p156 fu){K0:Int→Int→EL→ByteArray→Int→Int→Int→Int→Int→Prop}(L:EL→Nat)(hN:L=List.length){x0:ByteArray}{x1 x2 x3 x4 x5 x6:Int}(h:p156_b False fu (p156 False fu) K0 x0 x1 x2 x3 x4 x5 x6):Den Try.prog G0 156 [.ptr [.c (.v (.string x0)),.c (.v (.int .i64 x1)),.c (.v (.int .i64 x2)),.c (.v (.int .i64 x3)),.c (.v (.int .i64 x4)),.c (.v (.int .i64 x5))],.c (.v (.int .i64 x6))] (fun r bs=>(∃ (y0 y1:Int) (y2:EL) (y3:ByteArray) (y4 y5 y6 y7 y8:Int) (o1:OV),(r=.agg [.c (.v (.int .i64 y0)),.c (.v (.int .i64 y1)),.c (.sl 3 y2 none)]∧bs=[.ptr [.c (.v (.string y3)),.c (.v (.int .i64 y4)),.c (.v (.int .i64 y5)),.c (.v (.int .i64 y6)),.c (.v (.int .i64 y7)),.c (.v (.int .i64 y8))],o1])∧K0 y0 y1 y2 y3 y4 y5 y6 y7 y8)):=by
 obtain⟨O,hO⟩:∃ O,O=std 1 T G0 (Den Try.prog G0):=⟨_,rfl⟩
 have hLO:L=O.len:=by rw [hN,hO];rfl
 subst hLO
 refine den_h hO tiA mixed tabOk (fn:=Try.f156) (sh:=true) (by kernel_rfl) rfl rfl rfl rfl ?_
 intro Q b
 unfold p156_b at h
 conv=>cbv
 refine z0b hO [.ref 6] (d_p145 fu O.len hN h) ?_
 intro e Q a b
 conv=>cbv
 refine⟨by subst a hO;rfl,?_⟩
 intro r bs d
 rw [b] at d
 clear a b h
 obtain⟨y1,y2,y3,y4,y5,y6,y7,⟨rfl,rfl⟩,h⟩:=d
 conv=>cbv
 refine z1a hO tiA [[]] [(0,true,false),(1,true,false),(2,true,false),(3,true,false),(4,true,false),(5,true,false),(6,true,false),(7,true,false),(8,true,false),(9,true,true),(10,true,true),(11,true,true),(12,true,true),(13,true,true),(14,true,false),(15,true,false),(16,true,true),(17,true,true),(18,true,false),(19,true,false),(20,true,true),(21,true,true),(22,true,false),(23,true,false),(24,true,true),(25,true,true),(26,true,false),(27,true,false),(28,true,true),(29,true,true)] (by kernel_rfl) [0,1,4,5,40] [0,5000] [] (fun tm m=>∃ (j8:Bool),((tm=frame 0 120 [(0,.p 0 0 0),(1,.c (.v (.int .i64 x6))),(4,.p 5000 1 0),(5,.c (.v (.int .u8 y1))),(40,.c (.v (.bool j8)))]∧m=⟨[(0,.blk 0 [.c (.v (.string y2)),.c (.v (.int .i64 y3)),.c (.v (.int .i64 y4)),.c (.v (.int .i64 y5)),.c (.v (.int .i64 y6)),.c (.v (.int .i64 y7))]),(5000,.blk 1 [.c (.v (.int .i64 0)),.c (.v (.int .i64 0)),.c (.sl 3 [] (some []))])],2⟩))∧p156_4 False fu (p156 False fu) K0 x6 y1 y2 y3 y4 y5 y6 y7 j8) (fun L hL_4=>?_) ?_
 conv=>cbv
 refine br_h hO h (by subst hO;rfl) (fun k9 h=>?_) (fun k9 h=>?_)
 conv=>cbv
 refine br_t hO k9 ?_
 conv=>cbv
 refine br_t hO k9 ?_
 conv=>cbv
 refine br_t hO k9 ?_
 conv=>cbv
 refine br_t hO k9 ?_
 conv=>cbv
 refine br_t hO k9 ?_
 conv=>cbv
 refine br_t hO k9 ?_
 conv=>cbv
 refine br_t hO k9 ?_
 conv=>cbv
 refine br_t hO k9 ?_
 conv=>cbv
 refine br_t hO k9 ?_
 conv=>cbv
 refine br_t hO k9 ?_
 conv=>cbv
 exact hL_4 _ _ ⟨true,⟨(by (conv=>lhs;cbv)<;>(subst hO;rfl)),(by (conv=>lhs;cbv)<;>(subst hO;rfl))⟩,h⟩
 conv=>cbv
 refine br_f hO k9 ?_
 conv=>cbv
 refine br_f hO k9 ?_
 conv=>cbv
 refine br_h hO h (by subst hO;rfl) (fun k10 h=>?_) (fun k10 h=>?_)
 conv=>cbv
 refine br_t hO k10 ?_
 conv=>cbv
 refine br_f hO k9 ?_
 conv=>cbv
 refine br_t hO k10 ?_
 conv=>cbv
 refine br_f hO k9 ?_
 conv=>cbv
 refine br_h hO h (by subst hO;rfl) (fun k11 h=>?_) (fun k11 h=>?_)
 conv=>cbv
 refine br_t hO k11 ?_
 conv=>cbv
 refine br_f hO k9 ?_
 conv=>cbv
 refine br_t hO k11 ?_
 conv=>cbv
 refine br_f hO k9 ?_
 conv=>cbv
 refine br_h hO h (by subst hO;rfl) (fun k12 h=>?_) (fun k12 h=>?_)
 conv=>cbv
 refine br_t hO k12 ?_
 conv=>cbv
 refine br_f hO k9 ?_
 conv=>cbv
 refine br_t hO k12 ?_
 conv=>cbv
 refine br_f hO k9 ?_
 conv=>cbv
 refine br_h hO h (by subst hO;rfl) (fun k13 h=>?_) (fun k13 h=>?_)
 conv=>cbv
 refine br_t hO k13 ?_
 conv=>cbv
 refine br_f hO k9 ?_
 conv=>cbv
 refine br_t hO k13 ?_
 conv=>cbv
 refine br_f hO k9 ?_
 conv=>cbv
 exact hL_4 _ _ ⟨(z0a .neq y1 112),⟨(by (conv=>lhs;cbv)<;>(subst hO;rfl)),(by (conv=>lhs;cbv)<;>(subst hO;rfl))⟩,h⟩
 conv=>cbv
 refine br_f hO k13 ?_
 conv=>cbv
 refine br_f hO k9 ?_
 conv=>cbv
 refine br_f hO k13 ?_
 conv=>cbv
 refine br_f hO k9 ?_
 conv=>cbv
 exact hL_4 _ _ ⟨false,⟨(by (conv=>lhs;cbv)<;>(subst hO;rfl)),(by (conv=>lhs;cbv)<;>(subst hO;rfl))⟩,h⟩
 conv=>cbv
 refine br_f hO k12 ?_
 conv=>cbv
 refine br_f hO k9 ?_
 conv=>cbv
 refine br_f hO k12 ?_
 conv=>cbv
 refine br_f hO k9 ?_
 conv=>cbv
 refine br_f hO rfl ?_
 conv=>cbv
 refine br_f hO rfl ?_
 conv=>cbv
 refine br_f hO k9 ?_
 conv=>cbv
 refine br_f hO rfl ?_
 conv=>cbv
 refine br_f hO k9 ?_
 conv=>cbv
 exact hL_4 _ _ ⟨false,⟨(by (conv=>lhs;cbv)<;>(subst hO;rfl)),(by (conv=>lhs;cbv)<;>(subst hO;rfl))⟩,h⟩
 conv=>cbv
 refine br_f hO k11 ?_
 conv=>cbv
 refine br_f hO k9 ?_
 conv=>cbv
 refine br_f hO k11 ?_
 conv=>cbv
 refine br_f hO k9 ?_
 conv=>cbv
 refine br_f hO rfl ?_
 conv=>cbv
 refine br_f hO rfl ?_
 conv=>cbv
 refine br_f hO k9 ?_
 conv=>cbv
 refine br_f hO rfl ?_
 conv=>cbv
 refine br_f hO k9 ?_
 conv=>cbv
 refine br_f hO rfl ?_
 conv=>cbv
 refine br_f hO rfl ?_
 conv=>cbv
 refine br_f hO k9 ?_
 conv=>cbv
 refine br_f hO rfl ?_
 conv=>cbv
 refine br_f hO k9 ?_
 conv=>cbv
 exact hL_4 _ _ ⟨false,⟨(by (conv=>lhs;cbv)<;>(subst hO;rfl)),(by (conv=>lhs;cbv)<;>(subst hO;rfl))⟩,h⟩
 conv=>cbv
 refine br_f hO k10 ?_
 conv=>cbv
 refine br_f hO k9 ?_
 conv=>cbv
 refine br_f hO k10 ?_
 conv=>cbv
 refine br_f hO k9 ?_
 conv=>cbv
 refine br_f hO rfl ?_
 conv=>cbv
 refine br_f hO rfl ?_
 conv=>cbv
 refine br_f hO k9 ?_
 conv=>cbv
 refine br_f hO rfl ?_
 conv=>cbv
 refine br_f hO k9 ?_
 conv=>cbv
 refine br_f hO rfl ?_
 conv=>cbv
 refine br_f hO rfl ?_
 conv=>cbv
 refine br_f hO k9 ?_
 conv=>cbv
 refine br_f hO rfl ?_
 conv=>cbv
 refine br_f hO k9 ?_
 conv=>cbv
 refine br_f hO rfl ?_
 conv=>cbv
 refine br_f hO rfl ?_
 conv=>cbv
 refine br_f hO k9 ?_
 conv=>cbv
 refine br_f hO rfl ?_
 conv=>cbv
 refine br_f hO k9 ?_
 conv=>cbv
 exact hL_4 _ _ ⟨false,⟨(by (conv=>lhs;cbv)<;>(subst hO;rfl)),(by (conv=>lhs;cbv)<;>(subst hO;rfl))⟩,h⟩
 rintro tm m ⟨j8,hs,h⟩
 unfold p156_4 at h
 obtain⟨rfl,rfl⟩:=hs
 conv=>cbv
 refine br_h hO h (by subst hO;rfl) (fun k1 h=>?_) (fun k1 h=>?_)
 conv=>cbv
 refine z0b hO [.ref 6,.shut,.shut] (d_p147 fu O.len hN h) ?_
 intro e Q a b
 conv=>cbv
 refine⟨by subst a hO;rfl,?_⟩
 intro r bs d
 rw [b] at d
 clear a b h
 obtain⟨y9,y10,y11,y12,y13,y14,_,_,⟨rfl,rfl⟩,h⟩:=d
 conv=>cbv
 rw [b]
 exact⟨0,0,nilE,y9,y10,y11,y12,y13,y14,_,⟨(by subst hO;rfl),(by subst hO;rfl)⟩,h⟩
 conv=>cbv
 refine z0c hO ?_
 conv=>cbv
 refine z0f hO tiA h (by subst hO;rfl) [0,1,4,5] [0,5000] [] (fun tm m=>∃ (j15:ByteArray) (j16:Int) (j17:Int) (j18:Int) (j19:Int) (j20:Int),((tm=frame 0 120 [(0,.p 0 0 0),(1,.c (.v (.int .i64 x6))),(4,.p 5000 1 0),(5,.c (.v (.int .u8 y1)))]∧m=⟨[(0,.blk 0 [.c (.v (.string j15)),.c (.v (.int .i64 j16)),.c (.v (.int .i64 j17)),.c (.v (.int .i64 j18)),.c (.v (.int .i64 j19)),.c (.v (.int .i64 j20))]),(5000,.blk 1 [.c (.v (.int .i64 0)),.c (.v (.int .i64 0)),.c (.sl 3 [] (some []))])],2⟩))∧p156_3 False fu (p156 False fu) K0 x6 y1 j15 j16 j17 j18 j19 j20) (fun k8 h L hL_3=>?_) (fun k8 h L hL_3=>?_) ?_
 conv=>cbv
 refine z0b hO [.ref 6,.shut,.shut] (d_p147 fu O.len hN h) ?_
 intro e Q a b
 conv=>cbv
 refine⟨by subst a hO;rfl,?_⟩
 intro r bs d
 rw [b] at d
 clear a b h
 obtain⟨y72,y73,y74,y75,y76,y77,_,_,⟨rfl,rfl⟩,h⟩:=d
 conv=>cbv
 exact hL_3 _ _ ⟨y72,y73,y74,y75,y76,y77,⟨(by (conv=>lhs;cbv)<;>(subst hO;rfl)),(by (conv=>lhs;cbv)<;>(subst hO;rfl))⟩,h⟩
 conv=>cbv
 exact hL_3 _ _ ⟨y2,y3,y4,y5,y6,y7,⟨(by (conv=>lhs;cbv)<;>(subst hO;rfl)),(by (conv=>lhs;cbv)<;>(subst hO;rfl))⟩,h⟩
 rintro tm m ⟨j15,j16,j17,j18,j19,j20,hs,h⟩
 unfold p156_3 at h
 obtain⟨rfl,rfl⟩:=hs
 conv=>cbv
 refine z0f hO tiA h (by subst hO;rfl) [0,1,4,5] [0,5000] [] (fun tm m=>∃ (j21:ByteArray) (j22:Int) (j23:Int) (j24:Int) (j25:Int) (j26:Int),((tm=frame 0 120 [(0,.p 0 0 0),(1,.c (.v (.int .i64 x6))),(4,.p 5000 1 0),(5,.c (.v (.int .u8 y1)))]∧m=⟨[(0,.blk 0 [.c (.v (.string j21)),.c (.v (.int .i64 j22)),.c (.v (.int .i64 j23)),.c (.v (.int .i64 j24)),.c (.v (.int .i64 j25)),.c (.v (.int .i64 j26))]),(5000,.blk 1 [.c (.v (.int .i64 0)),.c (.v (.int .i64 0)),.c (.sl 3 [] (some []))])],2⟩))∧p156_2 False fu (p156 False fu) K0 x6 y1 j21 j22 j23 j24 j25 j26) (fun k7 h L hL_2=>?_) (fun k7 h L hL_2=>?_) ?_
 conv=>cbv
 refine z0b hO [.ref 6,.shut,.shut] (d_p147 fu O.len hN h) ?_
 intro e Q a b
 conv=>cbv
 refine⟨by subst a hO;rfl,?_⟩
 intro r bs d
 rw [b] at d
 clear a b h
 obtain⟨y66,y67,y68,y69,y70,y71,_,_,⟨rfl,rfl⟩,h⟩:=d
 conv=>cbv
 exact hL_2 _ _ ⟨y66,y67,y68,y69,y70,y71,⟨(by (conv=>lhs;cbv)<;>(subst hO;rfl)),(by (conv=>lhs;cbv)<;>(subst hO;rfl))⟩,h⟩
 conv=>cbv
 exact hL_2 _ _ ⟨j15,j16,j17,j18,j19,j20,⟨(by (conv=>lhs;cbv)<;>(subst hO;rfl)),(by (conv=>lhs;cbv)<;>(subst hO;rfl))⟩,h⟩
 rintro tm m ⟨j21,j22,j23,j24,j25,j26,hs,h⟩
 unfold p156_2 at h
 obtain⟨rfl,rfl⟩:=hs
 conv=>cbv
 refine br_h hO h (by subst hO;rfl) (fun k2 h=>?_) (fun k2 h=>?_)
 conv=>cbv
 rw [b]
 exact⟨0,0,nilE,j21,j22,j23,j24,j25,j26,_,⟨(by subst hO;rfl),(by subst hO;rfl)⟩,h⟩
 conv=>cbv
 refine z0c hO ?_
 conv=>cbv
 refine br_h hO h (by subst hO;rfl) (fun k3 h=>?_) (fun k3 h=>?_)
 conv=>cbv
 rw [b]
 exact⟨0,0,nilE,j21,z0d .add .i64 j22 1,j23,j24,j25,z0d .sub .i64 j26 1,_,⟨(by subst hO;rfl),(by subst hO;rfl)⟩,h⟩
 conv=>cbv
 refine br_h hO h (by subst hO;rfl) (fun k4 h=>?_) (fun k4 h=>?_)
 conv=>cbv
 refine z0b hO [.ref 6,.shut] (ih_p156 O.len hN h) ?_
 intro e Q a b
 conv=>cbv
 refine⟨by subst a hO;rfl,?_⟩
 intro r bs d
 rw [b] at d
 clear a b h
 obtain⟨y27,y28,y29,y30,y31,y32,y33,y34,y35,_,⟨rfl,rfl⟩,h⟩:=d
 conv=>cbv
 refine z0s hO h (fun g=>(by subst hO;exact g)) (fun h=>?_)
 conv=>cbv
 rw [b]
 exact⟨1,0,List.take 1 [[(CV.v (.int .i64 y27)),(CV.v (.int .i64 y28)),(CV.sl 3 y29 none)]],y30,y31,y32,y33,y34,y35,_,⟨(by subst hO;rfl),(by subst hO;rfl)⟩,h⟩
 conv=>cbv
 refine br_h hO h (by subst hO;rfl) (fun k5 h=>?_) (fun k5 h=>?_)
 conv=>cbv
 refine z0b hO [.ref 6] (d_p157 fu O.len hN h) ?_
 intro e Q a b
 conv=>cbv
 refine⟨by subst a hO;rfl,?_⟩
 intro r bs d
 rw [b] at d
 clear a b h
 obtain⟨y36,y37,y38,y39,y40,y41,y42,y43,y44,⟨rfl,rfl⟩,h⟩:=d
 conv=>cbv
 rw [b]
 exact⟨y36,y37,y38,y39,y40,y41,y42,y43,y44,_,⟨(by subst hO;rfl),(by subst hO;rfl)⟩,h⟩
 conv=>cbv
 refine z0c hO ?_
 conv=>cbv
 refine z0c hO ?_
 conv=>cbv
 refine z0c hO ?_
 conv=>cbv
 refine z0f hO tiA h (by subst hO;rfl) [0,1,4,6] [0,5000,7000] [] (fun tm m=>∃ (j45:Int) (j46:Int) (j47:Int),((tm=frame 0 120 [(0,.p 0 0 0),(1,.c (.v (.int .i64 x6))),(4,.p 5000 1 0),(6,.p 7000 1 0)]∧m=⟨[(0,.blk 0 [.c (.v (.string j21)),.c (.v (.int .i64 j45)),.c (.v (.int .i64 j23)),.c (.v (.int .i64 j24)),.c (.v (.int .i64 j25)),.c (.v (.int .i64 j46))]),(5000,.blk 1 [.c (.v (.int .i64 0)),.c (.v (.int .i64 0)),.c (.sl 3 [] (some []))]),(7000,.blk 1 [.c (.v (.int .i64 j47)),.c (.v (.int .i64 0)),.c (.sl 3 [] (some []))])],2⟩))∧p156_1 False fu (p156 False fu) K0 x6 j21 j23 j24 j25 j45 j46 j47) (fun k6 h L hL_1=>?_) (fun k6 h L hL_1=>?_) ?_
 conv=>cbv
 exact hL_1 _ _ ⟨z0d .add .i64 j22 1,z0d .sub .i64 j26 1,3,⟨(by (conv=>lhs;cbv)<;>(subst hO;rfl)),(by (conv=>lhs;cbv)<;>(subst hO;rfl))⟩,h⟩
 conv=>cbv
 exact hL_1 _ _ ⟨z0d .add .i64 j22 1,z0d .sub .i64 j26 1,2,⟨(by (conv=>lhs;cbv)<;>(subst hO;rfl)),(by (conv=>lhs;cbv)<;>(subst hO;rfl))⟩,h⟩
 rintro tm m ⟨j45,j46,j47,hs,h⟩
 unfold p156_1 at h
 obtain⟨rfl,rfl⟩:=hs
 conv=>cbv
 refine z0b hO [.ref 6,.shut] (ih_p156 O.len hN h) ?_
 intro e Q a b
 conv=>cbv
 refine⟨by subst a hO;rfl,?_⟩
 intro r bs d
 rw [b] at d
 clear a b h
 obtain⟨y48,y49,y50,y51,y52,y53,y54,y55,y56,_,⟨rfl,rfl⟩,h⟩:=d
 conv=>cbv
 refine z0b hO [.ref 6,.shut] (ih_p156 O.len hN h) ?_
 intro e Q a b
 conv=>cbv
 refine⟨by subst a hO;rfl,?_⟩
 intro r bs d
 rw [b] at d
 clear a b h
 obtain⟨y57,y58,y59,y60,y61,y62,y63,y64,y65,_,⟨rfl,rfl⟩,h⟩:=d
 conv=>cbv
 refine z0s hO h (fun g=>(by subst hO;exact g)) (fun h=>?_)
 conv=>cbv
 rw [b]
 exact⟨j47,0,List.take 2 [[(CV.v (.int .i64 y48)),(CV.v (.int .i64 y49)),(CV.sl 3 y50 none)],[(CV.v (.int .i64 y57)),(CV.v (.int .i64 y58)),(CV.sl 3 y59 none)]],y60,y61,y62,y63,y64,y65,_,⟨(by subst hO;rfl),(by subst hO;rfl)⟩,h⟩
theorem dd_p156 (fu:Nat):D_p156 fu:=by
 induction fu with
 | zero=>unfold D_p156;intros;rename_i h;rw [p156] at h;exact h.elim
 | succ n ih =>
  exact (by unfold D_p156;intro K0 L hN x0 x1 x2 x3 x4 x5 x6 h;exact b_p156 n ih L hN (by rw [p156] at h;exact h))
theorem d_p156 (fu:Nat):D_p156 fu:=dd_p156 fu
theorem d_p150 (fu:Nat){K0:Int→Int→EL→ByteArray→Int→Int→Int→Int→Int→Prop}(L:EL→Nat)(hN:L=List.length){x0:ByteArray}{x1 x2 x3 x4 x5:Int}(h:p150 False fu K0 x0 x1 x2 x3 x4 x5):Den Try.prog G0 150 [.ptr [.c (.v (.string x0)),.c (.v (.int .i64 x1)),.c (.v (.int .i64 x2)),.c (.v (.int .i64 x3)),.c (.v (.int .i64 x4)),.c (.v (.int .i64 x5))]] (fun r bs=>(∃ (y0 y1:Int) (y2:EL) (y3:ByteArray) (y4 y5 y6 y7 y8:Int),(r=.agg [.c (.v (.int .i64 y0)),.c (.v (.int .i64 y1)),.c (.sl 3 y2 none)]∧bs=[.ptr [.c (.v (.string y3)),.c (.v (.int .i64 y4)),.c (.v (.int .i64 y5)),.c (.v (.int .i64 y6)),.c (.v (.int .i64 y7)),.c (.v (.int .i64 y8))]])∧K0 y0 y1 y2 y3 y4 y5 y6 y7 y8)):=by
 obtain⟨O,hO⟩:∃ O,O=std 1 T G0 (Den Try.prog G0):=⟨_,rfl⟩
 have hLO:L=O.len:=by rw [hN,hO];rfl
 subst hLO
 refine den_h hO tiA mixed tabOk (fn:=Try.f150) (sh:=true) (by kernel_rfl) rfl rfl rfl rfl ?_
 intro Q b
 unfold p150 at h
 conv=>cbv
 refine z0b hO [.ref 6,.shut] (d_p156 fu O.len hN h) ?_
 intro e Q a b
 conv=>cbv
 refine⟨by subst a hO;rfl,?_⟩
 intro r bs d
 rw [b] at d
 clear a b h
 obtain⟨y1,y2,y3,y4,y5,y6,y7,y8,y9,_,⟨rfl,rfl⟩,h⟩:=d
 conv=>cbv
 rw [b]
 exact⟨y1,y2,y3,y4,y5,y6,y7,y8,y9,⟨(by subst hO;rfl),(by subst hO;rfl)⟩,h⟩
theorem d_p151 (fu:Nat){K0:ByteArray→Int→Int→Int→Int→Int→Prop}(L:EL→Nat)(hN:L=List.length){x0:ByteArray}{x1 x2 x3 x4 x5 x6:Int}(h:p151 False fu K0 x0 x1 x2 x3 x4 x5 x6):Den Try.prog G0 151 [.ptr [.c (.v (.string x0)),.c (.v (.int .i64 x1)),.c (.v (.int .i64 x2)),.c (.v (.int .i64 x3)),.c (.v (.int .i64 x4)),.c (.v (.int .i64 x5))],.c (.v (.int .u8 x6))] (fun r bs=>(∃ (y0:ByteArray) (y1 y2 y3 y4 y5:Int) (o1:OV),(r=.tup []∧bs=[.ptr [.c (.v (.string y0)),.c (.v (.int .i64 y1)),.c (.v (.int .i64 y2)),.c (.v (.int .i64 y3)),.c (.v (.int .i64 y4)),.c (.v (.int .i64 y5))],o1])∧K0 y0 y1 y2 y3 y4 y5)):=by
 obtain⟨O,hO⟩:∃ O,O=std 1 T G0 (Den Try.prog G0):=⟨_,rfl⟩
 have hLO:L=O.len:=by rw [hN,hO];rfl
 subst hLO
 refine den_h hO tiA mixed tabOk (fn:=Try.f151) (sh:=true) (by kernel_rfl) rfl rfl rfl rfl ?_
 intro Q b
 unfold p151 at h
 conv=>cbv
 refine z1a hO tiA [[0],[]] [(0,true,false),(2,true,false),(1,false,false),(3,true,false),(4,true,false),(5,true,false),(6,true,false),(7,true,false),(8,true,false),(9,true,false),(10,true,false),(11,true,false),(12,true,false),(13,true,false),(14,true,true),(15,true,true)] (by kernel_rfl) [0,19] [0] [] (fun tm m=>∃ (j1:ByteArray) (j2:Int) (j3:Int) (j4:Int) (j5:Int) (j6:Int) (j7:Bool),((tm=frame 0 39 [(0,.p 0 0 0),(19,.c (.v (.bool j7)))]∧m=⟨[(0,.blk 0 [.c (.v (.string j1)),.c (.v (.int .i64 j2)),.c (.v (.int .i64 j3)),.c (.v (.int .i64 j4)),.c (.v (.int .i64 j5)),.c (.v (.int .i64 j6))])],2⟩))∧p151_1 False fu K0 j1 j2 j3 j4 j5 j6 j7) (fun L hL_1=>?_) ?_
 conv=>cbv
 refine z0b hO [.ref 6] (d_p145 fu O.len hN h) ?_
 intro e Q a b
 conv=>cbv
 refine⟨by subst a hO;rfl,?_⟩
 intro r bs d
 rw [b] at d
 clear a b h
 obtain⟨y14,y15,y16,y17,y18,y19,y20,⟨rfl,rfl⟩,h⟩:=d
 conv=>cbv
 refine agr hO rfl rfl ?_
 refine br_h hO h (by subst hO;rfl) (fun k2 h=>?_) (fun k2 h=>?_)
 conv=>cbv
 refine br_t hO k2 ?_
 conv=>cbv
 refine br_t hO k2 ?_
 conv=>cbv
 refine br_t hO k2 ?_
 conv=>cbv
 refine br_t hO k2 ?_
 conv=>cbv
 refine br_t hO k2 ?_
 conv=>cbv
 refine br_t hO k2 ?_
 conv=>cbv
 refine br_t hO k2 ?_
 conv=>cbv
 refine br_t hO k2 ?_
 conv=>cbv
 refine br_t hO k2 ?_
 conv=>cbv
 refine br_t hO k2 ?_
 conv=>cbv
 exact hL_1 _ _ ⟨y15,y16,y17,y18,y19,y20,true,⟨(by (conv=>lhs;cbv)<;>(subst hO;rfl)),(by (conv=>lhs;cbv)<;>(subst hO;rfl))⟩,h⟩
 conv=>cbv
 refine br_f hO k2 ?_
 conv=>cbv
 refine br_f hO k2 ?_
 conv=>cbv
 refine br_f hO k2 ?_
 conv=>cbv
 refine br_f hO k2 ?_
 conv=>cbv
 refine br_f hO k2 ?_
 conv=>cbv
 refine br_f hO k2 ?_
 conv=>cbv
 refine br_f hO k2 ?_
 conv=>cbv
 refine br_f hO k2 ?_
 conv=>cbv
 refine br_f hO k2 ?_
 conv=>cbv
 refine br_f hO k2 ?_
 conv=>cbv
 exact hL_1 _ _ ⟨y15,y16,y17,y18,y19,y20,(z0a .geq y16 ((y15.size:Nat):Int)),⟨(by (conv=>lhs;cbv)<;>(subst hO;rfl)),(by (conv=>lhs;cbv)<;>(subst hO;rfl))⟩,h⟩
 rintro tm m ⟨j1,j2,j3,j4,j5,j6,j7,hs,h⟩
 unfold p151_1 at h
 obtain⟨rfl,rfl⟩:=hs
 conv=>cbv
 refine br_h hO h (by subst hO;rfl) (fun k1 h=>?_) (fun k1 h=>?_)
 conv=>cbv
 refine z0h hO tiA [[],[]] [(0,true,false),(1,true,false),(2,true,false),(3,true,false),(4,true,false),(5,true,false),(6,true,false),(7,true,false),(8,true,false),(9,true,false),(10,true,true),(11,false,true)] (by kernel_rfl) ?_
 conv=>cbv
 refine z0b hO [.ref 6,.shut,.shut] (d_p147 fu O.len hN h) ?_
 intro e Q a b
 conv=>cbv
 refine⟨by subst a hO;rfl,?_⟩
 intro r bs d
 rw [b] at d
 clear a b h
 obtain⟨y8,y9,y10,y11,y12,y13,_,_,⟨rfl,rfl⟩,h⟩:=d
 conv=>cbv
 refine z0c hO ?_
 conv=>cbv
 rw [b]
 exact⟨y8,y9,y10,y11,y12,y13,_,⟨(by subst hO;rfl),(by subst hO;rfl)⟩,h⟩
 conv=>cbv
 refine z0c hO ?_
 conv=>cbv
 rw [b]
 exact⟨j1,z0d .add .i64 j2 1,j3,j4,j5,j6,_,⟨(by subst hO;rfl),(by subst hO;rfl)⟩,h⟩
theorem d_p148 (fu:Nat){K0:Int→Int→ByteArray→EL→EL→ByteArray→Int→Int→Int→Int→Int→Prop}(L:EL→Nat)(hN:L=List.length){x0:ByteArray}{x1 x2 x3 x4 x5:Int}(h:p148 False fu K0 x0 x1 x2 x3 x4 x5):Den Try.prog G0 148 [.ptr [.c (.v (.string x0)),.c (.v (.int .i64 x1)),.c (.v (.int .i64 x2)),.c (.v (.int .i64 x3)),.c (.v (.int .i64 x4)),.c (.v (.int .i64 x5))]] (fun r bs=>(∃ (y0 y1:Int) (y2:ByteArray) (y3 y4:EL) (y5:ByteArray) (y6 y7 y8 y9 y10:Int),(r=.agg [.c (.v (.int .i64 y0)),.c (.v (.int .i64 y1)),.c (.v (.string y2)),.c (.sl 3 y3 none),.c (.sl 5 y4 none)]∧bs=[.ptr [.c (.v (.string y5)),.c (.v (.int .i64 y6)),.c (.v (.int .i64 y7)),.c (.v (.int .i64 y8)),.c (.v (.int .i64 y9)),.c (.v (.int .i64 y10))]])∧K0 y0 y1 y2 y3 y4 y5 y6 y7 y8 y9 y10)):=by
 obtain⟨O,hO⟩:∃ O,O=std 1 T G0 (Den Try.prog G0):=⟨_,rfl⟩
 have hLO:L=O.len:=by rw [hN,hO];rfl
 subst hLO
 refine den_h hO tiA mixed tabOk (fn:=Try.f148) (sh:=true) (by kernel_rfl) rfl rfl rfl rfl ?_
 intro Q b
 unfold p148 at h
 conv=>cbv
 refine z0h hO tiA [[],[]] [(0,true,false),(1,true,false),(2,true,false),(3,true,false),(4,true,false),(5,true,false),(6,true,false),(7,true,false),(8,true,false),(9,false,true),(10,true,true)] (by kernel_rfl) ?_
 conv=>cbv
 refine and_h h (fun g=>(by subst hO;exact g)) (fun h=>?_)
 refine and_h h (fun g=>(by subst hO;exact g)) (fun h=>?_)
 refine and_h h (fun g=>(by subst hO;exact g)) (fun h=>?_)
 refine z0b hO [.shut] (d_p153 fu O.len hN h) ?_
 intro e Q a b
 conv=>cbv
 refine⟨by subst a hO;rfl,?_⟩
 intro r bs d
 rw [b] at d
 clear a b h
 obtain⟨y1,_,⟨rfl,rfl⟩,h⟩:=d
 conv=>cbv
 refine z0c hO ?_
 conv=>cbv
 refine br_h hO h (by subst hO;rfl) (fun k1 h=>?_) (fun k1 h=>?_)
 conv=>cbv
 refine z0b hO [.ref 6,.shut,.shut] (d_p147 fu O.len hN h) ?_
 intro e Q a b
 conv=>cbv
 refine⟨by subst a hO;rfl,?_⟩
 intro r bs d
 rw [b] at d
 clear a b h
 obtain⟨y2,y3,y4,y5,y6,y7,_,_,⟨rfl,rfl⟩,h⟩:=d
 conv=>cbv
 rw [b]
 exact⟨0,0,⟨#[]⟩,nilE,nilE,y2,y3,y4,y5,y6,y7,⟨(by subst hO;rfl),(by subst hO;rfl)⟩,h⟩
 conv=>cbv
 refine z0c hO ?_
 conv=>cbv
 refine z0h hO tiA [[],[],[]] [(0,true,false),(1,true,false),(2,true,false),(3,true,false),(4,true,false),(5,true,false),(6,true,false),(7,true,false),(8,true,false),(9,true,false),(10,true,false),(11,true,false),(12,true,false),(13,true,false),(14,true,false),(15,true,true),(16,false,false),(17,false,true)] (by kernel_rfl) ?_
 conv=>cbv
 refine and_h h (fun g=>(by subst hO;exact g)) (fun h=>?_)
 refine and_h h (fun g=>(by subst hO;exact g)) (fun h=>?_)
 refine and_h h (fun g=>(by subst hO;exact g)) (fun h=>?_)
 refine agr hO rfl rfl ?_
 refine z0c hO ?_
 conv=>cbv
 refine z0b hO [.ref 6] (d_p145 fu O.len hN h) ?_
 intro e Q a b
 conv=>cbv
 refine⟨by subst a hO;rfl,?_⟩
 intro r bs d
 rw [b] at d
 clear a b h
 obtain⟨y8,y9,y10,y11,y12,y13,y14,⟨rfl,rfl⟩,h⟩:=d
 conv=>cbv
 refine br_h hO h (by subst hO;rfl) (fun k2 h=>?_) (fun k2 h=>?_)
 conv=>cbv
 rw [b]
 exact⟨2,0,(x0.extract (x1:Int).toNat (z0d .add .i64 x1 y1:Int).toNat),nilE,nilE,y9,y10,y11,y12,y13,y14,⟨(by subst hO;rfl),(by subst hO;rfl)⟩,h⟩
 conv=>cbv
 refine z0c hO ?_
 conv=>cbv
 refine z0v hO tiA [0,2,4] [0,3000,5000,117000] [] (fun (n:Nat) tm m=>∃ (z15:ByteArray) (z16:Int) (z17:Int) (z18:Int) (z19:Int) (z20:Int) (z21:ByteArray) (z22:EL),((z22=[]∧tm=frame 0 131 [(0,.p 0 0 0),(2,.p 3000 1 0),(4,.p 5000 1 0)]∧m=⟨[(0,.blk 0 [.c (.v (.string z15)),.c (.v (.int .i64 z16)),.c (.v (.int .i64 z17)),.c (.v (.int .i64 z18)),.c (.v (.int .i64 z19)),.c (.v (.int .i64 z20))]),(3000,.blk 1 [.c (.v (.int .i64 0)),.c (.v (.int .i64 0)),.c (.v (.string ⟨#[]⟩)),.c (.sl 3 [] (some [])),.c (.sl 5 [] (some []))]),(5000,.blk 1 [.c (.v (.int .i64 2)),.c (.v (.int .i64 0)),.c (.v (.string z21)),.c (.sl 3 [] (some [])),.c (.sl 5 [] (some []))])],2⟩)∨(tm=frame 0 131 [(0,.p 0 0 0),(2,.p 3000 1 0),(4,.p 5000 1 0)]∧m=⟨[(0,.blk 0 [.c (.v (.string z15)),.c (.v (.int .i64 z16)),.c (.v (.int .i64 z17)),.c (.v (.int .i64 z18)),.c (.v (.int .i64 z19)),.c (.v (.int .i64 z20))]),(3000,.blk 1 [.c (.v (.int .i64 0)),.c (.v (.int .i64 0)),.c (.v (.string ⟨#[]⟩)),.c (.sl 3 [] (some [])),.c (.sl 5 [] (some []))]),(5000,.blk 1 [.c (.v (.int .i64 2)),.c (.v (.int .i64 0)),.c (.v (.string z21)),.t 117000 1 (O.len z22),.c (.sl 5 [] (some []))]),(117000,.arr 1 3 z22 none false)],2⟩))∧p148_4L False fu K0 n z15 z16 z17 z18 z19 z20 z21 z22) (fun n=>n) fu ⟨y9,z0d .add .i64 y10 1,y11,y12,y13,y14,(x0.extract (x1:Int).toNat (z0d .add .i64 x1 y1:Int).toNat),nilE,(.inl ⟨rfl,(by (conv=>lhs;cbv)<;>(subst hO;rfl)),(by (conv=>lhs;cbv)<;>(subst hO;rfl))⟩),h⟩ ?_
 rintro n1 tm m L ⟨z15,z16,z17,z18,z19,z20,z21,z22,hs,h⟩ hLn1
 (cases n1 with
 | zero=>rw [p148_4L] at h;exact h.elim
 | succ n1 =>
 rw [p148_4L] at h
 unfold p148_4 at h
 rcases hs with hs | hs
 obtain⟨rfl,rfl,rfl⟩:=hs
 conv=>cbv
 refine z0f hO tiA h (by subst hO;rfl) [0,2,4] [0,3000,5000] [] (fun tm m=>∃ (j23:ByteArray) (j24:Int) (j25:Int) (j26:Int) (j27:Int) (j28:Int),((tm=frame 0 131 [(0,.p 0 0 0),(2,.p 3000 1 0),(4,.p 5000 1 0)]∧m=⟨[(0,.blk 0 [.c (.v (.string j23)),.c (.v (.int .i64 j24)),.c (.v (.int .i64 j25)),.c (.v (.int .i64 j26)),.c (.v (.int .i64 j27)),.c (.v (.int .i64 j28))]),(3000,.blk 1 [.c (.v (.int .i64 0)),.c (.v (.int .i64 0)),.c (.v (.string ⟨#[]⟩)),.c (.sl 3 [] (some [])),.c (.sl 5 [] (some []))]),(5000,.blk 1 [.c (.v (.int .i64 2)),.c (.v (.int .i64 0)),.c (.v (.string z21)),.c (.sl 3 [] (some [])),.c (.sl 5 [] (some []))])],2⟩))∧p148_1 False fu K0 (p148_4L False fu K0 n1) z21 nilE j23 j24 j25 j26 j27 j28) (fun k5 h L hL_1=>?_) (fun k5 h L hL_1=>?_) ?_
 conv=>cbv
 refine z0b hO [.ref 6] (d_p145 fu O.len hN h) ?_
 intro e Q a b
 conv=>cbv
 refine⟨by subst a hO;rfl,?_⟩
 intro r bs d
 rw [b] at d
 clear a b h
 obtain⟨y51,y52,y53,y54,y55,y56,y57,⟨rfl,rfl⟩,h⟩:=d
 conv=>cbv
 refine z1a hO tiA [[]] [(0,true,false),(1,true,false),(2,true,false),(3,true,false),(4,true,false),(5,true,false),(6,true,false),(7,true,false),(8,true,false),(9,true,true),(10,true,true),(11,true,true),(12,true,true),(13,true,true),(14,true,false),(15,true,false),(16,true,true),(17,true,true),(18,true,false),(19,true,false),(20,true,true),(21,true,true),(22,true,false),(23,true,false),(24,true,true),(25,true,true),(26,true,false),(27,true,false),(28,true,true),(29,true,true)] (by kernel_rfl) [0,2,4,97] [0,3000,5000] [] (fun tm m=>∃ (j58:Bool),((tm=frame 0 131 [(0,.p 0 0 0),(2,.p 3000 1 0),(4,.p 5000 1 0),(97,.c (.v (.bool j58)))]∧m=⟨[(0,.blk 0 [.c (.v (.string y52)),.c (.v (.int .i64 y53)),.c (.v (.int .i64 y54)),.c (.v (.int .i64 y55)),.c (.v (.int .i64 y56)),.c (.v (.int .i64 y57))]),(3000,.blk 1 [.c (.v (.int .i64 0)),.c (.v (.int .i64 0)),.c (.v (.string ⟨#[]⟩)),.c (.sl 3 [] (some [])),.c (.sl 5 [] (some []))]),(5000,.blk 1 [.c (.v (.int .i64 2)),.c (.v (.int .i64 0)),.c (.v (.string z21)),.c (.sl 3 [] (some [])),.c (.sl 5 [] (some []))])],2⟩))∧p148_3 False fu K0 (p148_4L False fu K0 n1) z21 nilE y52 y53 y54 y55 y56 y57 j58) (fun L hL_3=>?_) ?_
 conv=>cbv
 refine br_h hO h (by subst hO;rfl) (fun k7 h=>?_) (fun k7 h=>?_)
 conv=>cbv
 refine br_t hO k7 ?_
 conv=>cbv
 refine br_t hO k7 ?_
 conv=>cbv
 refine br_h hO h (by subst hO;rfl) (fun k8 h=>?_) (fun k8 h=>?_)
 conv=>cbv
 refine br_t hO k8 ?_
 conv=>cbv
 refine br_t hO k7 ?_
 conv=>cbv
 refine br_t hO k8 ?_
 conv=>cbv
 refine br_t hO k7 ?_
 conv=>cbv
 refine br_t hO rfl ?_
 conv=>cbv
 refine br_t hO rfl ?_
 conv=>cbv
 refine br_t hO k7 ?_
 conv=>cbv
 refine br_t hO rfl ?_
 conv=>cbv
 refine br_t hO k7 ?_
 conv=>cbv
 refine br_t hO rfl ?_
 conv=>cbv
 refine br_t hO rfl ?_
 conv=>cbv
 refine br_t hO k7 ?_
 conv=>cbv
 refine br_t hO rfl ?_
 conv=>cbv
 refine br_t hO k7 ?_
 conv=>cbv
 refine br_t hO rfl ?_
 conv=>cbv
 refine br_t hO rfl ?_
 conv=>cbv
 refine br_t hO k7 ?_
 conv=>cbv
 refine br_t hO rfl ?_
 conv=>cbv
 refine br_t hO k7 ?_
 conv=>cbv
 exact hL_3 _ _ ⟨true,⟨(by (conv=>lhs;cbv)<;>(subst hO;rfl)),(by (conv=>lhs;cbv)<;>(subst hO;rfl))⟩,h⟩
 conv=>cbv
 refine br_f hO k8 ?_
 conv=>cbv
 refine br_t hO k7 ?_
 conv=>cbv
 refine br_f hO k8 ?_
 conv=>cbv
 refine br_t hO k7 ?_
 conv=>cbv
 refine br_h hO h (by subst hO;rfl) (fun k9 h=>?_) (fun k9 h=>?_)
 conv=>cbv
 refine br_t hO k9 ?_
 conv=>cbv
 refine br_t hO k7 ?_
 conv=>cbv
 refine br_t hO k9 ?_
 conv=>cbv
 refine br_t hO k7 ?_
 conv=>cbv
 refine br_t hO rfl ?_
 conv=>cbv
 refine br_t hO rfl ?_
 conv=>cbv
 refine br_t hO k7 ?_
 conv=>cbv
 refine br_t hO rfl ?_
 conv=>cbv
 refine br_t hO k7 ?_
 conv=>cbv
 refine br_t hO rfl ?_
 conv=>cbv
 refine br_t hO rfl ?_
 conv=>cbv
 refine br_t hO k7 ?_
 conv=>cbv
 refine br_t hO rfl ?_
 conv=>cbv
 refine br_t hO k7 ?_
 conv=>cbv
 exact hL_3 _ _ ⟨true,⟨(by (conv=>lhs;cbv)<;>(subst hO;rfl)),(by (conv=>lhs;cbv)<;>(subst hO;rfl))⟩,h⟩
 conv=>cbv
 refine br_f hO k9 ?_
 conv=>cbv
 refine br_t hO k7 ?_
 conv=>cbv
 refine br_f hO k9 ?_
 conv=>cbv
 refine br_t hO k7 ?_
 conv=>cbv
 refine br_h hO h (by subst hO;rfl) (fun k10 h=>?_) (fun k10 h=>?_)
 conv=>cbv
 refine br_t hO k10 ?_
 conv=>cbv
 refine br_t hO k7 ?_
 conv=>cbv
 refine br_t hO k10 ?_
 conv=>cbv
 refine br_t hO k7 ?_
 conv=>cbv
 refine br_t hO rfl ?_
 conv=>cbv
 refine br_t hO rfl ?_
 conv=>cbv
 refine br_t hO k7 ?_
 conv=>cbv
 refine br_t hO rfl ?_
 conv=>cbv
 refine br_t hO k7 ?_
 conv=>cbv
 exact hL_3 _ _ ⟨true,⟨(by (conv=>lhs;cbv)<;>(subst hO;rfl)),(by (conv=>lhs;cbv)<;>(subst hO;rfl))⟩,h⟩
 conv=>cbv
 refine br_f hO k10 ?_
 conv=>cbv
 refine br_t hO k7 ?_
 conv=>cbv
 refine br_f hO k10 ?_
 conv=>cbv
 refine br_t hO k7 ?_
 conv=>cbv
 refine br_h hO h (by subst hO;rfl) (fun k11 h=>?_) (fun k11 h=>?_)
 conv=>cbv
 refine br_t hO k11 ?_
 conv=>cbv
 refine br_t hO k7 ?_
 conv=>cbv
 refine br_t hO k11 ?_
 conv=>cbv
 refine br_t hO k7 ?_
 conv=>cbv
 exact hL_3 _ _ ⟨true,⟨(by (conv=>lhs;cbv)<;>(subst hO;rfl)),(by (conv=>lhs;cbv)<;>(subst hO;rfl))⟩,h⟩
 conv=>cbv
 refine br_f hO k11 ?_
 conv=>cbv
 refine br_t hO k7 ?_
 conv=>cbv
 refine br_f hO k11 ?_
 conv=>cbv
 refine br_t hO k7 ?_
 conv=>cbv
 exact hL_3 _ _ ⟨(z0a .eql y51 112),⟨(by (conv=>lhs;cbv)<;>(subst hO;rfl)),(by (conv=>lhs;cbv)<;>(subst hO;rfl))⟩,h⟩
 conv=>cbv
 refine br_f hO k7 ?_
 conv=>cbv
 refine br_f hO k7 ?_
 conv=>cbv
 refine br_f hO k7 ?_
 conv=>cbv
 refine br_f hO k7 ?_
 conv=>cbv
 refine br_f hO k7 ?_
 conv=>cbv
 refine br_f hO k7 ?_
 conv=>cbv
 refine br_f hO k7 ?_
 conv=>cbv
 refine br_f hO k7 ?_
 conv=>cbv
 refine br_f hO k7 ?_
 conv=>cbv
 refine br_f hO k7 ?_
 conv=>cbv
 exact hL_3 _ _ ⟨false,⟨(by (conv=>lhs;cbv)<;>(subst hO;rfl)),(by (conv=>lhs;cbv)<;>(subst hO;rfl))⟩,h⟩
 rintro tm m ⟨j58,hs,h⟩
 unfold p148_3 at h
 obtain⟨rfl,rfl⟩:=hs
 conv=>cbv
 refine z0f hO tiA h (by subst hO;rfl) [0,2,4] [0,3000,5000] [] (fun tm m=>∃ (j59:ByteArray) (j60:Int) (j61:Int) (j62:Int) (j63:Int) (j64:Int),((tm=frame 0 131 [(0,.p 0 0 0),(2,.p 3000 1 0),(4,.p 5000 1 0)]∧m=⟨[(0,.blk 0 [.c (.v (.string j59)),.c (.v (.int .i64 j60)),.c (.v (.int .i64 j61)),.c (.v (.int .i64 j62)),.c (.v (.int .i64 j63)),.c (.v (.int .i64 j64))]),(3000,.blk 1 [.c (.v (.int .i64 0)),.c (.v (.int .i64 0)),.c (.v (.string ⟨#[]⟩)),.c (.sl 3 [] (some [])),.c (.sl 5 [] (some []))]),(5000,.blk 1 [.c (.v (.int .i64 2)),.c (.v (.int .i64 0)),.c (.v (.string z21)),.c (.sl 3 [] (some [])),.c (.sl 5 [] (some []))])],2⟩))∧p148_2 False fu K0 (p148_4L False fu K0 n1) z21 nilE j59 j60 j61 j62 j63 j64) (fun k6 h L hL_2=>?_) (fun k6 h L hL_2=>?_) ?_
 conv=>cbv
 refine z0b hO [.ref 6,.shut,.shut] (d_p147 fu O.len hN h) ?_
 intro e Q a b
 conv=>cbv
 refine⟨by subst a hO;rfl,?_⟩
 intro r bs d
 rw [b] at d
 clear a b h
 obtain⟨y65,y66,y67,y68,y69,y70,_,_,⟨rfl,rfl⟩,h⟩:=d
 conv=>cbv
 exact hL_2 _ _ ⟨y65,y66,y67,y68,y69,y70,⟨(by (conv=>lhs;cbv)<;>(subst hO;rfl)),(by (conv=>lhs;cbv)<;>(subst hO;rfl))⟩,h⟩
 conv=>cbv
 exact hL_2 _ _ ⟨y52,y53,y54,y55,y56,y57,⟨(by (conv=>lhs;cbv)<;>(subst hO;rfl)),(by (conv=>lhs;cbv)<;>(subst hO;rfl))⟩,h⟩
 rintro tm m ⟨j59,j60,j61,j62,j63,j64,hs,h⟩
 unfold p148_2 at h
 obtain⟨rfl,rfl⟩:=hs
 conv=>cbv
 exact hL_1 _ _ ⟨j59,j60,j61,j62,j63,j64,⟨(by (conv=>lhs;cbv)<;>(subst hO;rfl)),(by (conv=>lhs;cbv)<;>(subst hO;rfl))⟩,h⟩
 conv=>cbv
 exact hL_1 _ _ ⟨z15,z16,z17,z18,z19,z20,⟨(by (conv=>lhs;cbv)<;>(subst hO;rfl)),(by (conv=>lhs;cbv)<;>(subst hO;rfl))⟩,h⟩
 rintro tm m ⟨j23,j24,j25,j26,j27,j28,hs,h⟩
 unfold p148_1 at h
 obtain⟨rfl,rfl⟩:=hs
 conv=>cbv
 refine z0b hO [.ref 6] (d_p150 fu O.len hN h) ?_
 intro e Q a b
 conv=>cbv
 refine⟨by subst a hO;rfl,?_⟩
 intro r bs d
 rw [b] at d
 clear a b h
 obtain⟨y29,y30,y31,y32,y33,y34,y35,y36,y37,⟨rfl,rfl⟩,h⟩:=d
 conv=>cbv
 refine br_h hO h (by subst hO;rfl) (fun k3 h=>?_) (fun k3 h=>?_)
 conv=>cbv
 rw [b]
 exact⟨2,0,z21,nilE,nilE,y32,y33,y34,y35,y36,y37,⟨(by subst hO;rfl),(by subst hO;rfl)⟩,h⟩
 conv=>cbv
 refine z0c hO ?_
 conv=>cbv
 refine z0s hO h (fun g=>(by subst hO;exact g)) (fun h=>?_)
 conv=>cbv
 refine and_h h (fun g=>(by subst hO;exact g)) (fun h=>?_)
 refine z2l hO (by subst hO;exact List.cons_ne_nil _ _) ?_
 conv=>cbv
 refine z0b hO [.ref 6] (d_p145 fu O.len hN h) ?_
 intro e Q a b
 conv=>cbv
 refine⟨by subst a hO;rfl,?_⟩
 intro r bs d
 rw [b] at d
 clear a b h
 obtain⟨y38,y39,y40,y41,y42,y43,y44,⟨rfl,rfl⟩,h⟩:=d
 conv=>cbv
 refine br_h hO h (by subst hO;rfl) (fun k4 h=>?_) (fun k4 h=>?_)
 conv=>cbv
 refine z0b hO [.ref 6,.shut] (d_p151 fu O.len hN h) ?_
 intro e Q a b
 conv=>cbv
 refine⟨by subst a hO;rfl,?_⟩
 intro r bs d
 rw [b] at d
 clear a b h
 obtain⟨y45,y46,y47,y48,y49,y50,_,⟨rfl,rfl⟩,h⟩:=d
 conv=>cbv
 refine z0j hO ?_
 conv=>cbv
 rw [b]
 exact⟨2,0,z21,(nilE++(List.take 1 [[(CV.v (.int .i64 y29)),(CV.v (.int .i64 y30)),(CV.sl 3 y31 none)]])),nilE,y45,y46,y47,y48,y49,y50,⟨(by subst hO;rfl),(by subst hO;rfl)⟩,h⟩
 conv=>cbv
 refine z0c hO ?_
 conv=>cbv
 exact hLn1 n1 _ _ (Nat.lt_succ_self n1) ⟨y39,z0d .add .i64 y40 1,y41,y42,y43,y44,z21,(nilE++(List.take 1 [[(CV.v (.int .i64 y29)),(CV.v (.int .i64 y30)),(CV.sl 3 y31 none)]])),(.inr ⟨(by (conv=>lhs;cbv)<;>(subst hO;rfl)),(by (conv=>lhs;cbv)<;>(subst hO;rfl))⟩),h⟩
 obtain⟨rfl,rfl⟩:=hs
 conv=>cbv
 refine z0f hO tiA h (by subst hO;rfl) [0,2,4] [0,3000,5000,117000] [] (fun tm m=>∃ (j23:ByteArray) (j24:Int) (j25:Int) (j26:Int) (j27:Int) (j28:Int),((tm=frame 0 131 [(0,.p 0 0 0),(2,.p 3000 1 0),(4,.p 5000 1 0)]∧m=⟨[(0,.blk 0 [.c (.v (.string j23)),.c (.v (.int .i64 j24)),.c (.v (.int .i64 j25)),.c (.v (.int .i64 j26)),.c (.v (.int .i64 j27)),.c (.v (.int .i64 j28))]),(3000,.blk 1 [.c (.v (.int .i64 0)),.c (.v (.int .i64 0)),.c (.v (.string ⟨#[]⟩)),.c (.sl 3 [] (some [])),.c (.sl 5 [] (some []))]),(5000,.blk 1 [.c (.v (.int .i64 2)),.c (.v (.int .i64 0)),.c (.v (.string z21)),.t 117000 1 (O.len z22),.c (.sl 5 [] (some []))]),(117000,.arr 1 3 z22 none false)],2⟩))∧p148_1 False fu K0 (p148_4L False fu K0 n1) z21 z22 j23 j24 j25 j26 j27 j28) (fun k5 h L hL_1=>?_) (fun k5 h L hL_1=>?_) ?_
 conv=>cbv
 refine z0b hO [.ref 6] (d_p145 fu O.len hN h) ?_
 intro e Q a b
 conv=>cbv
 refine⟨by subst a hO;rfl,?_⟩
 intro r bs d
 rw [b] at d
 clear a b h
 obtain⟨y51,y52,y53,y54,y55,y56,y57,⟨rfl,rfl⟩,h⟩:=d
 conv=>cbv
 refine z1a hO tiA [[]] [(0,true,false),(1,true,false),(2,true,false),(3,true,false),(4,true,false),(5,true,false),(6,true,false),(7,true,false),(8,true,false),(9,true,true),(10,true,true),(11,true,true),(12,true,true),(13,true,true),(14,true,false),(15,true,false),(16,true,true),(17,true,true),(18,true,false),(19,true,false),(20,true,true),(21,true,true),(22,true,false),(23,true,false),(24,true,true),(25,true,true),(26,true,false),(27,true,false),(28,true,true),(29,true,true)] (by kernel_rfl) [0,2,4,97] [0,3000,5000,117000] [] (fun tm m=>∃ (j58:Bool),((tm=frame 0 131 [(0,.p 0 0 0),(2,.p 3000 1 0),(4,.p 5000 1 0),(97,.c (.v (.bool j58)))]∧m=⟨[(0,.blk 0 [.c (.v (.string y52)),.c (.v (.int .i64 y53)),.c (.v (.int .i64 y54)),.c (.v (.int .i64 y55)),.c (.v (.int .i64 y56)),.c (.v (.int .i64 y57))]),(3000,.blk 1 [.c (.v (.int .i64 0)),.c (.v (.int .i64 0)),.c (.v (.string ⟨#[]⟩)),.c (.sl 3 [] (some [])),.c (.sl 5 [] (some []))]),(5000,.blk 1 [.c (.v (.int .i64 2)),.c (.v (.int .i64 0)),.c (.v (.string z21)),.t 117000 1 (O.len z22),.c (.sl 5 [] (some []))]),(117000,.arr 1 3 z22 none false)],2⟩))∧p148_3 False fu K0 (p148_4L False fu K0 n1) z21 z22 y52 y53 y54 y55 y56 y57 j58) (fun L hL_3=>?_) ?_
 conv=>cbv
 refine br_h hO h (by subst hO;rfl) (fun k7 h=>?_) (fun k7 h=>?_)
 conv=>cbv
 refine br_t hO k7 ?_
 conv=>cbv
 refine br_t hO k7 ?_
 conv=>cbv
 refine br_h hO h (by subst hO;rfl) (fun k8 h=>?_) (fun k8 h=>?_)
 conv=>cbv
 refine br_t hO k8 ?_
 conv=>cbv
 refine br_t hO k7 ?_
 conv=>cbv
 refine br_t hO k8 ?_
 conv=>cbv
 refine br_t hO k7 ?_
 conv=>cbv
 refine br_t hO rfl ?_
 conv=>cbv
 refine br_t hO rfl ?_
 conv=>cbv
 refine br_t hO k7 ?_
 conv=>cbv
 refine br_t hO rfl ?_
 conv=>cbv
 refine br_t hO k7 ?_
 conv=>cbv
 refine br_t hO rfl ?_
 conv=>cbv
 refine br_t hO rfl ?_
 conv=>cbv
 refine br_t hO k7 ?_
 conv=>cbv
 refine br_t hO rfl ?_
 conv=>cbv
 refine br_t hO k7 ?_
 conv=>cbv
 refine br_t hO rfl ?_
 conv=>cbv
 refine br_t hO rfl ?_
 conv=>cbv
 refine br_t hO k7 ?_
 conv=>cbv
 refine br_t hO rfl ?_
 conv=>cbv
 refine br_t hO k7 ?_
 conv=>cbv
 exact hL_3 _ _ ⟨true,⟨(by (conv=>lhs;cbv)<;>(subst hO;rfl)),(by (conv=>lhs;cbv)<;>(subst hO;rfl))⟩,h⟩
 conv=>cbv
 refine br_f hO k8 ?_
 conv=>cbv
 refine br_t hO k7 ?_
 conv=>cbv
 refine br_f hO k8 ?_
 conv=>cbv
 refine br_t hO k7 ?_
 conv=>cbv
 refine br_h hO h (by subst hO;rfl) (fun k9 h=>?_) (fun k9 h=>?_)
 conv=>cbv
 refine br_t hO k9 ?_
 conv=>cbv
 refine br_t hO k7 ?_
 conv=>cbv
 refine br_t hO k9 ?_
 conv=>cbv
 refine br_t hO k7 ?_
 conv=>cbv
 refine br_t hO rfl ?_
 conv=>cbv
 refine br_t hO rfl ?_
 conv=>cbv
 refine br_t hO k7 ?_
 conv=>cbv
 refine br_t hO rfl ?_
 conv=>cbv
 refine br_t hO k7 ?_
 conv=>cbv
 refine br_t hO rfl ?_
 conv=>cbv
 refine br_t hO rfl ?_
 conv=>cbv
 refine br_t hO k7 ?_
 conv=>cbv
 refine br_t hO rfl ?_
 conv=>cbv
 refine br_t hO k7 ?_
 conv=>cbv
 exact hL_3 _ _ ⟨true,⟨(by (conv=>lhs;cbv)<;>(subst hO;rfl)),(by (conv=>lhs;cbv)<;>(subst hO;rfl))⟩,h⟩
 conv=>cbv
 refine br_f hO k9 ?_
 conv=>cbv
 refine br_t hO k7 ?_
 conv=>cbv
 refine br_f hO k9 ?_
 conv=>cbv
 refine br_t hO k7 ?_
 conv=>cbv
 refine br_h hO h (by subst hO;rfl) (fun k10 h=>?_) (fun k10 h=>?_)
 conv=>cbv
 refine br_t hO k10 ?_
 conv=>cbv
 refine br_t hO k7 ?_
 conv=>cbv
 refine br_t hO k10 ?_
 conv=>cbv
 refine br_t hO k7 ?_
 conv=>cbv
 refine br_t hO rfl ?_
 conv=>cbv
 refine br_t hO rfl ?_
 conv=>cbv
 refine br_t hO k7 ?_
 conv=>cbv
 refine br_t hO rfl ?_
 conv=>cbv
 refine br_t hO k7 ?_
 conv=>cbv
 exact hL_3 _ _ ⟨true,⟨(by (conv=>lhs;cbv)<;>(subst hO;rfl)),(by (conv=>lhs;cbv)<;>(subst hO;rfl))⟩,h⟩
 conv=>cbv
 refine br_f hO k10 ?_
 conv=>cbv
 refine br_t hO k7 ?_
 conv=>cbv
 refine br_f hO k10 ?_
 conv=>cbv
 refine br_t hO k7 ?_
 conv=>cbv
 refine br_h hO h (by subst hO;rfl) (fun k11 h=>?_) (fun k11 h=>?_)
 conv=>cbv
 refine br_t hO k11 ?_
 conv=>cbv
 refine br_t hO k7 ?_
 conv=>cbv
 refine br_t hO k11 ?_
 conv=>cbv
 refine br_t hO k7 ?_
 conv=>cbv
 exact hL_3 _ _ ⟨true,⟨(by (conv=>lhs;cbv)<;>(subst hO;rfl)),(by (conv=>lhs;cbv)<;>(subst hO;rfl))⟩,h⟩
 conv=>cbv
 refine br_f hO k11 ?_
 conv=>cbv
 refine br_t hO k7 ?_
 conv=>cbv
 refine br_f hO k11 ?_
 conv=>cbv
 refine br_t hO k7 ?_
 conv=>cbv
 exact hL_3 _ _ ⟨(z0a .eql y51 112),⟨(by (conv=>lhs;cbv)<;>(subst hO;rfl)),(by (conv=>lhs;cbv)<;>(subst hO;rfl))⟩,h⟩
 conv=>cbv
 refine br_f hO k7 ?_
 conv=>cbv
 refine br_f hO k7 ?_
 conv=>cbv
 refine br_f hO k7 ?_
 conv=>cbv
 refine br_f hO k7 ?_
 conv=>cbv
 refine br_f hO k7 ?_
 conv=>cbv
 refine br_f hO k7 ?_
 conv=>cbv
 refine br_f hO k7 ?_
 conv=>cbv
 refine br_f hO k7 ?_
 conv=>cbv
 refine br_f hO k7 ?_
 conv=>cbv
 refine br_f hO k7 ?_
 conv=>cbv
 exact hL_3 _ _ ⟨false,⟨(by (conv=>lhs;cbv)<;>(subst hO;rfl)),(by (conv=>lhs;cbv)<;>(subst hO;rfl))⟩,h⟩
 rintro tm m ⟨j58,hs,h⟩
 unfold p148_3 at h
 obtain⟨rfl,rfl⟩:=hs
 conv=>cbv
 refine z0f hO tiA h (by subst hO;rfl) [0,2,4] [0,3000,5000,117000] [] (fun tm m=>∃ (j59:ByteArray) (j60:Int) (j61:Int) (j62:Int) (j63:Int) (j64:Int),((tm=frame 0 131 [(0,.p 0 0 0),(2,.p 3000 1 0),(4,.p 5000 1 0)]∧m=⟨[(0,.blk 0 [.c (.v (.string j59)),.c (.v (.int .i64 j60)),.c (.v (.int .i64 j61)),.c (.v (.int .i64 j62)),.c (.v (.int .i64 j63)),.c (.v (.int .i64 j64))]),(3000,.blk 1 [.c (.v (.int .i64 0)),.c (.v (.int .i64 0)),.c (.v (.string ⟨#[]⟩)),.c (.sl 3 [] (some [])),.c (.sl 5 [] (some []))]),(5000,.blk 1 [.c (.v (.int .i64 2)),.c (.v (.int .i64 0)),.c (.v (.string z21)),.t 117000 1 (O.len z22),.c (.sl 5 [] (some []))]),(117000,.arr 1 3 z22 none false)],2⟩))∧p148_2 False fu K0 (p148_4L False fu K0 n1) z21 z22 j59 j60 j61 j62 j63 j64) (fun k6 h L hL_2=>?_) (fun k6 h L hL_2=>?_) ?_
 conv=>cbv
 refine z0b hO [.ref 6,.shut,.shut] (d_p147 fu O.len hN h) ?_
 intro e Q a b
 conv=>cbv
 refine⟨by subst a hO;rfl,?_⟩
 intro r bs d
 rw [b] at d
 clear a b h
 obtain⟨y65,y66,y67,y68,y69,y70,_,_,⟨rfl,rfl⟩,h⟩:=d
 conv=>cbv
 exact hL_2 _ _ ⟨y65,y66,y67,y68,y69,y70,⟨(by (conv=>lhs;cbv)<;>(subst hO;rfl)),(by (conv=>lhs;cbv)<;>(subst hO;rfl))⟩,h⟩
 conv=>cbv
 exact hL_2 _ _ ⟨y52,y53,y54,y55,y56,y57,⟨(by (conv=>lhs;cbv)<;>(subst hO;rfl)),(by (conv=>lhs;cbv)<;>(subst hO;rfl))⟩,h⟩
 rintro tm m ⟨j59,j60,j61,j62,j63,j64,hs,h⟩
 unfold p148_2 at h
 obtain⟨rfl,rfl⟩:=hs
 conv=>cbv
 exact hL_1 _ _ ⟨j59,j60,j61,j62,j63,j64,⟨(by (conv=>lhs;cbv)<;>(subst hO;rfl)),(by (conv=>lhs;cbv)<;>(subst hO;rfl))⟩,h⟩
 conv=>cbv
 exact hL_1 _ _ ⟨z15,z16,z17,z18,z19,z20,⟨(by (conv=>lhs;cbv)<;>(subst hO;rfl)),(by (conv=>lhs;cbv)<;>(subst hO;rfl))⟩,h⟩
 rintro tm m ⟨j23,j24,j25,j26,j27,j28,hs,h⟩
 unfold p148_1 at h
 obtain⟨rfl,rfl⟩:=hs
 conv=>cbv
 refine z0b hO [.ref 6] (d_p150 fu O.len hN h) ?_
 intro e Q a b
 conv=>cbv
 refine⟨by subst a hO;rfl,?_⟩
 intro r bs d
 rw [b] at d
 clear a b h
 obtain⟨y29,y30,y31,y32,y33,y34,y35,y36,y37,⟨rfl,rfl⟩,h⟩:=d
 conv=>cbv
 refine br_h hO h (by subst hO;rfl) (fun k3 h=>?_) (fun k3 h=>?_)
 conv=>cbv
 refine z0j hO ?_
 conv=>cbv
 rw [b]
 exact⟨2,0,z21,z22,nilE,y32,y33,y34,y35,y36,y37,⟨(by subst hO;rfl),(by subst hO;rfl)⟩,h⟩
 conv=>cbv
 refine z0c hO ?_
 conv=>cbv
 refine z0s hO h (fun g=>(by subst hO;exact g)) (fun h=>?_)
 conv=>cbv
 refine⟨(by subst hO;rfl),?_⟩
 refine and_h h (fun g=>(by subst hO;exact g)) (fun h=>?_)
 refine z0b hO [.ref 6] (d_p145 fu O.len hN h) ?_
 intro e Q a b
 conv=>cbv
 refine⟨by subst a hO;rfl,?_⟩
 intro r bs d
 rw [b] at d
 clear a b h
 obtain⟨y38,y39,y40,y41,y42,y43,y44,⟨rfl,rfl⟩,h⟩:=d
 conv=>cbv
 refine br_h hO h (by subst hO;rfl) (fun k4 h=>?_) (fun k4 h=>?_)
 conv=>cbv
 refine z0b hO [.ref 6,.shut] (d_p151 fu O.len hN h) ?_
 intro e Q a b
 conv=>cbv
 refine⟨by subst a hO;rfl,?_⟩
 intro r bs d
 rw [b] at d
 clear a b h
 obtain⟨y45,y46,y47,y48,y49,y50,_,⟨rfl,rfl⟩,h⟩:=d
 conv=>cbv
 refine z0j hO ?_
 conv=>cbv
 rw [b]
 exact⟨2,0,z21,(z22++(List.take 1 [[(CV.v (.int .i64 y29)),(CV.v (.int .i64 y30)),(CV.sl 3 y31 none)]])),nilE,y45,y46,y47,y48,y49,y50,⟨(by subst hO;rfl),(by subst hO;rfl)⟩,h⟩
 conv=>cbv
 refine z0c hO ?_
 conv=>cbv
 exact hLn1 n1 _ _ (Nat.lt_succ_self n1) ⟨y39,z0d .add .i64 y40 1,y41,y42,y43,y44,z21,(z22++(List.take 1 [[(CV.v (.int .i64 y29)),(CV.v (.int .i64 y30)),(CV.sl 3 y31 none)]])),(.inr ⟨(by (conv=>lhs;cbv)<;>(subst hO;rfl)),(by (conv=>lhs;cbv)<;>(subst hO;rfl))⟩),h⟩)
theorem d_p155 (fu:Nat){K0:ByteArray→Int→Int→Int→Int→Int→Prop}(L:EL→Nat)(hN:L=List.length){x0:ByteArray}{x1 x2 x3 x4 x5:Int}(h:p155 False fu K0 x0 x1 x2 x3 x4 x5):Den Try.prog G0 155 [.ptr [.c (.v (.string x0)),.c (.v (.int .i64 x1)),.c (.v (.int .i64 x2)),.c (.v (.int .i64 x3)),.c (.v (.int .i64 x4)),.c (.v (.int .i64 x5))]] (fun r bs=>(∃ (y0:ByteArray) (y1 y2 y3 y4 y5:Int),(r=.tup []∧bs=[.ptr [.c (.v (.string y0)),.c (.v (.int .i64 y1)),.c (.v (.int .i64 y2)),.c (.v (.int .i64 y3)),.c (.v (.int .i64 y4)),.c (.v (.int .i64 y5))]])∧K0 y0 y1 y2 y3 y4 y5)):=by
 obtain⟨O,hO⟩:∃ O,O=std 1 T G0 (Den Try.prog G0):=⟨_,rfl⟩
 have hLO:L=O.len:=by rw [hN,hO];rfl
 subst hLO
 refine den_h hO tiA mixed tabOk (fn:=Try.f155) (sh:=true) (by kernel_rfl) rfl rfl rfl rfl ?_
 intro Q b
 unfold p155 at h
 conv=>cbv
 refine z1a hO tiA [[],[],[]] [(0,true,false),(1,true,false),(2,true,false),(3,true,false),(4,true,false),(5,true,false),(6,true,false),(7,true,false),(8,true,false),(9,true,false),(10,true,false),(11,true,false),(12,true,false),(13,true,false),(14,true,false),(15,true,false),(16,true,false),(17,true,false),(18,true,false),(19,true,false),(20,false,false),(21,true,false),(22,true,false),(23,true,false),(24,true,false),(25,true,false),(26,true,false),(27,true,false),(28,true,false),(29,true,false),(30,true,false),(31,false,false),(32,true,true),(33,true,false)] (by kernel_rfl) [0,35] [0] [] (fun tm m=>∃ (j1:Bool),((tm=frame 0 42 [(0,.p 0 0 0),(35,.c (.v (.bool j1)))]∧m=⟨[(0,.blk 0 [.c (.v (.string x0)),.c (.v (.int .i64 x1)),.c (.v (.int .i64 x2)),.c (.v (.int .i64 x3)),.c (.v (.int .i64 x4)),.c (.v (.int .i64 x5))])],2⟩))∧p155_2 False fu K0 x0 x1 x2 x3 x4 x5 j1) (fun L hL_2=>?_) ?_
 conv=>cbv
 refine br_h hO h (by subst hO;rfl) (fun k2 h=>?_) (fun k2 h=>?_)
 conv=>cbv
 refine br_t hO k2 ?_
 conv=>cbv
 refine br_t hO k2 ?_
 conv=>cbv
 refine br_t hO k2 ?_
 conv=>cbv
 refine br_t hO k2 ?_
 conv=>cbv
 refine br_t hO k2 ?_
 conv=>cbv
 refine br_t hO k2 ?_
 conv=>cbv
 refine br_t hO k2 ?_
 conv=>cbv
 refine br_t hO k2 ?_
 conv=>cbv
 refine and_h h (fun g=>(by subst hO;exact g)) (fun h=>?_)
 refine and_h h (fun g=>(by subst hO;exact g)) (fun h=>?_)
 refine br_t hO k2 ?_
 conv=>cbv
 refine z0b hO [.shut] (d_p146 fu O.len hN h) ?_
 intro e Q a b
 conv=>cbv
 refine⟨by subst a hO;rfl,?_⟩
 intro r bs d
 rw [b] at d
 clear a b h
 obtain⟨y14,_,⟨rfl,rfl⟩,h⟩:=d
 conv=>cbv
 refine agr hO rfl rfl ?_
 refine br_t hO k2 ?_
 conv=>cbv
 refine br_h hO h (by subst hO;rfl) (fun k3 h=>?_) (fun k3 h=>?_)
 conv=>cbv
 refine br_t hO k3 ?_
 conv=>cbv
 refine br_t hO k3 ?_
 conv=>cbv
 refine br_t hO k3 ?_
 conv=>cbv
 refine br_t hO k3 ?_
 conv=>cbv
 refine br_t hO k3 ?_
 conv=>cbv
 refine br_t hO k3 ?_
 conv=>cbv
 refine br_t hO k3 ?_
 conv=>cbv
 refine br_t hO k3 ?_
 conv=>cbv
 refine br_t hO k3 ?_
 conv=>cbv
 refine br_t hO k2 ?_
 conv=>cbv
 refine br_t hO k3 ?_
 conv=>cbv
 refine br_t hO k2 ?_
 conv=>cbv
 exact hL_2 _ _ ⟨true,⟨(by (conv=>lhs;cbv)<;>(subst hO;rfl)),(by (conv=>lhs;cbv)<;>(subst hO;rfl))⟩,h⟩
 conv=>cbv
 refine br_f hO k3 ?_
 conv=>cbv
 refine br_f hO k3 ?_
 conv=>cbv
 refine br_f hO k3 ?_
 conv=>cbv
 refine br_f hO k3 ?_
 conv=>cbv
 refine br_f hO k3 ?_
 conv=>cbv
 refine br_f hO k3 ?_
 conv=>cbv
 refine br_f hO k3 ?_
 conv=>cbv
 refine br_f hO k3 ?_
 conv=>cbv
 refine and_h h (fun g=>(by subst hO;exact g)) (fun h=>?_)
 refine and_h h (fun g=>(by subst hO;exact g)) (fun h=>?_)
 refine br_f hO k3 ?_
 conv=>cbv
 refine z0b hO [.shut] (d_p154 fu O.len hN h) ?_
 intro e Q a b
 conv=>cbv
 refine⟨by subst a hO;rfl,?_⟩
 intro r bs d
 rw [b] at d
 clear a b h
 obtain⟨y15,_,⟨rfl,rfl⟩,h⟩:=d
 conv=>cbv
 refine agr hO rfl rfl ?_
 refine br_t hO k2 ?_
 conv=>cbv
 refine br_f hO k3 ?_
 conv=>cbv
 refine br_t hO k2 ?_
 conv=>cbv
 exact hL_2 _ _ ⟨y15,⟨(by (conv=>lhs;cbv)<;>(subst hO;rfl)),(by (conv=>lhs;cbv)<;>(subst hO;rfl))⟩,h⟩
 conv=>cbv
 refine br_f hO k2 ?_
 conv=>cbv
 refine br_f hO k2 ?_
 conv=>cbv
 refine br_f hO k2 ?_
 conv=>cbv
 refine br_f hO k2 ?_
 conv=>cbv
 refine br_f hO k2 ?_
 conv=>cbv
 refine br_f hO k2 ?_
 conv=>cbv
 refine br_f hO k2 ?_
 conv=>cbv
 refine br_f hO k2 ?_
 conv=>cbv
 refine br_f hO k2 ?_
 conv=>cbv
 refine br_f hO k2 ?_
 conv=>cbv
 refine br_f hO k2 ?_
 conv=>cbv
 refine br_f hO k2 ?_
 conv=>cbv
 exact hL_2 _ _ ⟨false,⟨(by (conv=>lhs;cbv)<;>(subst hO;rfl)),(by (conv=>lhs;cbv)<;>(subst hO;rfl))⟩,h⟩
 rintro tm m ⟨j1,hs,h⟩
 unfold p155_2 at h
 obtain⟨rfl,rfl⟩:=hs
 conv=>cbv
 refine z0f hO tiA h (by subst hO;rfl) [] [0] [] (fun tm m=>∃ (j2:ByteArray) (j3:Int) (j4:Int) (j5:Int) (j6:Int) (j7:Int),((tm=frame 0 42 []∧m=⟨[(0,.blk 0 [.c (.v (.string j2)),.c (.v (.int .i64 j3)),.c (.v (.int .i64 j4)),.c (.v (.int .i64 j5)),.c (.v (.int .i64 j6)),.c (.v (.int .i64 j7))])],2⟩))∧p155_1 False fu K0 j2 j3 j4 j5 j6 j7) (fun k1 h L hL_1=>?_) (fun k1 h L hL_1=>?_) ?_
 conv=>cbv
 refine z0b hO [.ref 6,.shut,.shut] (d_p147 fu O.len hN h) ?_
 intro e Q a b
 conv=>cbv
 refine⟨by subst a hO;rfl,?_⟩
 intro r bs d
 rw [b] at d
 clear a b h
 obtain⟨y8,y9,y10,y11,y12,y13,_,_,⟨rfl,rfl⟩,h⟩:=d
 conv=>cbv
 exact hL_1 _ _ ⟨y8,y9,y10,y11,y12,y13,⟨(by (conv=>lhs;cbv)<;>(subst hO;rfl)),(by (conv=>lhs;cbv)<;>(subst hO;rfl))⟩,h⟩
 conv=>cbv
 exact hL_1 _ _ ⟨x0,x1,x2,x3,x4,x5,⟨(by (conv=>lhs;cbv)<;>(subst hO;rfl)),(by (conv=>lhs;cbv)<;>(subst hO;rfl))⟩,h⟩
 rintro tm m ⟨j2,j3,j4,j5,j6,j7,hs,h⟩
 unfold p155_1 at h
 obtain⟨rfl,rfl⟩:=hs
 conv=>cbv
 rw [b]
 exact⟨j2,j3,j4,j5,j6,j7,⟨(by subst hO;rfl),(by subst hO;rfl)⟩,h⟩
theorem d_p149 (fu:Nat){K0:Int→ByteArray→Int→Int→Int→Int→Int→Prop}(L:EL→Nat)(hN:L=List.length){x0:ByteArray}{x1 x2 x3 x4 x5:Int}(h:p149 False fu K0 x0 x1 x2 x3 x4 x5):Den Try.prog G0 149 [.ptr [.c (.v (.string x0)),.c (.v (.int .i64 x1)),.c (.v (.int .i64 x2)),.c (.v (.int .i64 x3)),.c (.v (.int .i64 x4)),.c (.v (.int .i64 x5))]] (fun r bs=>(∃ (y0:Int) (y1:ByteArray) (y2 y3 y4 y5 y6:Int),(r=.c (.v (.int .i64 y0))∧bs=[.ptr [.c (.v (.string y1)),.c (.v (.int .i64 y2)),.c (.v (.int .i64 y3)),.c (.v (.int .i64 y4)),.c (.v (.int .i64 y5)),.c (.v (.int .i64 y6))]])∧K0 y0 y1 y2 y3 y4 y5 y6)):=by
 obtain⟨O,hO⟩:∃ O,O=std 1 T G0 (Den Try.prog G0):=⟨_,rfl⟩
 have hLO:L=O.len:=by rw [hN,hO];rfl
 subst hLO
 refine den_h hO tiA mixed tabOk (fn:=Try.f149) (sh:=true) (by kernel_rfl) rfl rfl rfl rfl ?_
 intro Q b
 unfold p149 at h
 conv=>cbv
 refine z0v hO tiA [0,3] [0] [] (fun (n:Nat) tm m=>∃ (z1:Int),((tm=frame 0 106 [(0,.p 0 0 0),(3,.c (.v (.int .i64 x1)))]∧m=⟨[(0,.blk 0 [.c (.v (.string x0)),.c (.v (.int .i64 z1)),.c (.v (.int .i64 x2)),.c (.v (.int .i64 x3)),.c (.v (.int .i64 x4)),.c (.v (.int .i64 x5))])],2⟩))∧p149_4L False fu K0 x0 x1 x2 x3 x4 x5 n z1) (fun n=>n) fu ⟨x1,⟨(by (conv=>lhs;cbv)<;>(subst hO;rfl)),(by (conv=>lhs;cbv)<;>(subst hO;rfl))⟩,h⟩ ?_
 rintro n1 tm m L ⟨z1,hs,h⟩ hLn1
 (cases n1 with
 | zero=>rw [p149_4L] at h;exact h.elim
 | succ n1 =>
 rw [p149_4L] at h
 unfold p149_4 at h
 obtain⟨rfl,rfl⟩:=hs
 conv=>cbv
 refine z1a hO tiA [[],[]] [(0,true,false),(1,true,false),(2,true,false),(3,true,false),(4,true,false),(5,true,false),(6,true,false),(7,true,false),(8,true,false),(9,true,false),(10,true,false),(11,true,false),(12,true,false),(13,true,false),(14,true,false),(15,true,false),(16,true,false),(17,true,false),(18,true,false),(19,true,true),(20,false,true),(21,true,true)] (by kernel_rfl) [0,3,31] [0] [] (fun tm m=>∃ (j2:Bool),((tm=frame 0 106 [(0,.p 0 0 0),(3,.c (.v (.int .i64 x1))),(31,.c (.v (.bool j2)))]∧m=⟨[(0,.blk 0 [.c (.v (.string x0)),.c (.v (.int .i64 z1)),.c (.v (.int .i64 x2)),.c (.v (.int .i64 x3)),.c (.v (.int .i64 x4)),.c (.v (.int .i64 x5))])],2⟩))∧p149_3 False fu K0 (p149_4L False fu K0 x0 x1 x2 x3 x4 x5 n1) x0 x1 x2 x3 x4 x5 z1 j2) (fun L hL_3=>?_) ?_
 conv=>cbv
 refine br_h hO h (by subst hO;rfl) (fun k7 h=>?_) (fun k7 h=>?_)
 conv=>cbv
 refine br_t hO k7 ?_
 conv=>cbv
 refine br_t hO k7 ?_
 conv=>cbv
 refine br_t hO k7 ?_
 conv=>cbv
 refine br_t hO k7 ?_
 conv=>cbv
 refine br_t hO k7 ?_
 conv=>cbv
 refine br_t hO k7 ?_
 conv=>cbv
 refine br_t hO k7 ?_
 conv=>cbv
 refine br_t hO k7 ?_
 conv=>cbv
 refine and_h h (fun g=>(by subst hO;exact g)) (fun h=>?_)
 refine and_h h (fun g=>(by subst hO;exact g)) (fun h=>?_)
 refine br_t hO k7 ?_
 conv=>cbv
 refine z0b hO [.shut] (d_p154 fu O.len hN h) ?_
 intro e Q a b
 conv=>cbv
 refine⟨by subst a hO;rfl,?_⟩
 intro r bs d
 rw [b] at d
 clear a b h
 obtain⟨y30,_,⟨rfl,rfl⟩,h⟩:=d
 conv=>cbv
 refine br_t hO k7 ?_
 conv=>cbv
 exact hL_3 _ _ ⟨y30,⟨(by (conv=>lhs;cbv)<;>(subst hO;rfl)),(by (conv=>lhs;cbv)<;>(subst hO;rfl))⟩,h⟩
 conv=>cbv
 refine br_f hO k7 ?_
 conv=>cbv
 refine br_f hO k7 ?_
 conv=>cbv
 refine br_f hO k7 ?_
 conv=>cbv
 refine br_f hO k7 ?_
 conv=>cbv
 refine br_f hO k7 ?_
 conv=>cbv
 refine br_f hO k7 ?_
 conv=>cbv
 refine br_f hO k7 ?_
 conv=>cbv
 refine br_f hO k7 ?_
 conv=>cbv
 refine br_f hO k7 ?_
 conv=>cbv
 refine br_f hO k7 ?_
 conv=>cbv
 exact hL_3 _ _ ⟨false,⟨(by (conv=>lhs;cbv)<;>(subst hO;rfl)),(by (conv=>lhs;cbv)<;>(subst hO;rfl))⟩,h⟩
 rintro tm m ⟨j2,hs,h⟩
 unfold p149_3 at h
 obtain⟨rfl,rfl⟩:=hs
 conv=>cbv
 refine br_h hO h (by subst hO;rfl) (fun k1 h=>?_) (fun k1 h=>?_)
 conv=>cbv
 refine z0c hO ?_
 conv=>cbv
 refine br_h hO h (by subst hO;rfl) (fun k2 h=>?_) (fun k2 h=>?_)
 conv=>cbv
 refine z0b hO [.ref 6,.shut,.shut] (d_p147 fu O.len hN h) ?_
 intro e Q a b
 conv=>cbv
 refine⟨by subst a hO;rfl,?_⟩
 intro r bs d
 rw [b] at d
 clear a b h
 obtain⟨y3,y4,y5,y6,y7,y8,_,_,⟨rfl,rfl⟩,h⟩:=d
 conv=>cbv
 rw [b]
 exact⟨0,y3,y4,y5,y6,y7,y8,⟨(by subst hO;rfl),(by subst hO;rfl)⟩,h⟩
 conv=>cbv
 refine z0c hO ?_
 conv=>cbv
 refine z0q hO tiA [0,3,57] [0] [] (fun tm m=>∃ (j9:Bool),((tm=frame 0 106 [(0,.p 0 0 0),(3,.c (.v (.int .i64 x1))),(57,.c (.v (.bool j9)))]∧m=⟨[(0,.blk 0 [.c (.v (.string x0)),.c (.v (.int .i64 z1)),.c (.v (.int .i64 x2)),.c (.v (.int .i64 x3)),.c (.v (.int .i64 x4)),.c (.v (.int .i64 x5))])],2⟩))∧p149_1 False fu K0 (p149_4L False fu K0 x0 x1 x2 x3 x4 x5 n1) x0 x2 x3 x4 x5 z1 j9) (fun L hL_1=>?_) ?_
 conv=>cbv
 refine br_h hO h (by subst hO;rfl) (fun k4 h=>?_) (fun k4 h=>?_)
 conv=>cbv
 refine br_t hO k4 ?_
 conv=>cbv
 refine br_t hO k4 ?_
 conv=>cbv
 refine br_t hO k4 ?_
 conv=>cbv
 refine br_t hO k4 ?_
 conv=>cbv
 refine br_t hO k4 ?_
 conv=>cbv
 refine and_h h (fun g=>(by subst hO;exact g)) (fun h=>?_)
 refine and_h h (fun g=>(by subst hO;exact g)) (fun h=>?_)
 refine br_t hO k4 ?_
 conv=>cbv
 refine br_t hO k4 ?_
 conv=>cbv
 exact hL_1 _ _ ⟨(z0a .eql ((List.getD x0.data.toList (x1:Int).toNat 0).toNat:Nat) 48),⟨(by (conv=>lhs;cbv)<;>(subst hO;rfl)),(by (conv=>lhs;cbv)<;>(subst hO;rfl))⟩,h⟩
 conv=>cbv
 refine br_f hO k4 ?_
 conv=>cbv
 refine br_f hO k4 ?_
 conv=>cbv
 refine br_f hO k4 ?_
 conv=>cbv
 refine br_f hO k4 ?_
 conv=>cbv
 refine br_f hO k4 ?_
 conv=>cbv
 refine br_f hO k4 ?_
 conv=>cbv
 refine br_f hO k4 ?_
 conv=>cbv
 exact hL_1 _ _ ⟨false,⟨(by (conv=>lhs;cbv)<;>(subst hO;rfl)),(by (conv=>lhs;cbv)<;>(subst hO;rfl))⟩,h⟩
 rintro tm m ⟨j9,hs,h⟩
 unfold p149_1 at h
 obtain⟨rfl,rfl⟩:=hs
 conv=>cbv
 refine br_h hO h (by subst hO;rfl) (fun k3 h=>?_) (fun k3 h=>?_)
 conv=>cbv
 refine z0b hO [.ref 6,.shut,.shut] (d_p147 fu O.len hN h) ?_
 intro e Q a b
 conv=>cbv
 refine⟨by subst a hO;rfl,?_⟩
 intro r bs d
 rw [b] at d
 clear a b h
 obtain⟨y10,y11,y12,y13,y14,y15,_,_,⟨rfl,rfl⟩,h⟩:=d
 conv=>cbv
 rw [b]
 exact⟨0,y10,y11,y12,y13,y14,y15,⟨(by subst hO;rfl),(by subst hO;rfl)⟩,h⟩
 conv=>cbv
 refine z0c hO ?_
 conv=>cbv
 exact hLn1 n1 _ _ (Nat.lt_succ_self n1) ⟨z0d .add .i64 z1 1,⟨(by (conv=>lhs;cbv)<;>(subst hO;rfl)),(by (conv=>lhs;cbv)<;>(subst hO;rfl))⟩,h⟩
 conv=>cbv
 refine br_h hO h (by subst hO;rfl) (fun k5 h=>?_) (fun k5 h=>?_)
 conv=>cbv
 refine z0b hO [.ref 6,.shut,.shut] (d_p147 fu O.len hN h) ?_
 intro e Q a b
 conv=>cbv
 refine⟨by subst a hO;rfl,?_⟩
 intro r bs d
 rw [b] at d
 clear a b h
 obtain⟨y16,y17,y18,y19,y20,y21,_,_,⟨rfl,rfl⟩,h⟩:=d
 conv=>cbv
 rw [b]
 exact⟨0,y16,y17,y18,y19,y20,y21,⟨(by subst hO;rfl),(by subst hO;rfl)⟩,h⟩
 conv=>cbv
 refine z0c hO ?_
 conv=>cbv
 refine z0v hO tiA [0,4,5] [0] [] (fun (n:Nat) tm m=>∃ (z22:Int) (z23:Int),((tm=frame 0 106 [(0,.p 0 0 0),(4,.c (.v (.int .i64 z22))),(5,.c (.v (.int .i64 z23)))]∧m=⟨[(0,.blk 0 [.c (.v (.string x0)),.c (.v (.int .i64 z1)),.c (.v (.int .i64 x2)),.c (.v (.int .i64 x3)),.c (.v (.int .i64 x4)),.c (.v (.int .i64 x5))])],2⟩))∧p149_2L False fu K0 x0 x2 x3 x4 x5 z1 n z22 z23) (fun n=>n) fu ⟨0,x1,⟨(by (conv=>lhs;cbv)<;>(subst hO;rfl)),(by (conv=>lhs;cbv)<;>(subst hO;rfl))⟩,h⟩ ?_
 rintro n2 tm m L ⟨z22,z23,hs,h⟩ hLn2
 (cases n2 with
 | zero=>rw [p149_2L] at h;exact h.elim
 | succ n2 =>
 rw [p149_2L] at h
 unfold p149_2 at h
 obtain⟨rfl,rfl⟩:=hs
 conv=>cbv
 refine br_h hO h (by subst hO;rfl) (fun k6 h=>?_) (fun k6 h=>?_)
 conv=>cbv
 refine z0c hO ?_
 conv=>cbv
 refine and_h h (fun g=>(by subst hO;exact g)) (fun h=>?_)
 refine and_h h (fun g=>(by subst hO;exact g)) (fun h=>?_)
 exact hLn2 n2 _ _ (Nat.lt_succ_self n2) ⟨z0d .add .i64 (z0d .mul .i64 z22 10) (IntKind.i64.wrap (z0d .sub .u8 ((List.getD x0.data.toList (z23:Int).toNat 0).toNat:Nat) 48)),z0d .add .i64 z23 1,⟨(by (conv=>lhs;cbv)<;>(subst hO;rfl)),(by (conv=>lhs;cbv)<;>(subst hO;rfl))⟩,h⟩
 conv=>cbv
 refine z0b hO [.ref 6] (d_p155 fu O.len hN h) ?_
 intro e Q a b
 conv=>cbv
 refine⟨by subst a hO;rfl,?_⟩
 intro r bs d
 rw [b] at d
 clear a b h
 obtain⟨y24,y25,y26,y27,y28,y29,⟨rfl,rfl⟩,h⟩:=d
 conv=>cbv
 rw [b]
 exact⟨z22,y24,y25,y26,y27,y28,y29,⟨(by subst hO;rfl),(by subst hO;rfl)⟩,h⟩))
end Go.Proofs.Ythncmjlcmlmnmaa
