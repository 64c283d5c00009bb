/- A part of the proof. Conditions: none. -/
import Derived.Test.YtioiigabeoaneaaRQ8
import Derived.Test.YtioiigabeoaneaaRQ5
import Derived.Test.YtioiigabeoaneaaRQ12
import Derived.Test.YtioiigabeoaneaaRQ7
import Derived.Test.YtioiigabeoaneaaRQ11
import Derived.Test.YtioiigabeoaneaaRQ4
import Derived.ChangeSlices
import Derived.Test.YtioiigabeoaneaaProg
import Derived.ProofKit
namespace Go.Proofs.Ytioiigabeoaneaa
open Go V
set_option maxRecDepth 100000
set_option maxHeartbeats 4000000
def D_p29 (fu:Nat):Prop:=∀ {K0:Bool→Prop} (L:EL→Nat) (_:L=List.length) {x0 x1:Int} {x2:ByteArray} {x3 x4:EL} {x5 x6:Int} {x7:ByteArray} {x8 x9:EL} (_:p29 False fu K0 x0 x1 x2 x3 x4 x5 x6 x7 x8 x9),Den Try.prog G0 29 [.agg [.c (.v (.int .i64 x0)),.c (.v (.int .i64 x1)),.c (.v (.string x2)),.c (.sl 3 x3 none),.c (.sl 5 x4 none)],.agg [.c (.v (.int .i64 x5)),.c (.v (.int .i64 x6)),.c (.v (.string x7)),.c (.sl 3 x8 none),.c (.sl 5 x9 none)]] (fun r bs=>(∃ (y0:Bool) (o0 o1:OV),(r=.c (.v (.bool y0))∧bs=[o0,o1])∧K0 y0))
theorem b_p29 (fu:Nat)(ih_p29:D_p29 fu){K0:Bool→Prop}(L:EL→Nat)(hN:L=List.length){x0 x1:Int}{x2:ByteArray}{x3 x4:EL}{x5 x6:Int}{x7:ByteArray}{x8 x9:EL}(h:p29_b False fu (p29 False fu) K0 x0 x1 x2 x3 x4 x5 x6 x7 x8 x9):Den Try.prog G0 29 [.agg [.c (.v (.int .i64 x0)),.c (.v (.int .i64 x1)),.c (.v (.string x2)),.c (.sl 3 x3 none),.c (.sl 5 x4 none)],.agg [.c (.v (.int .i64 x5)),.c (.v (.int .i64 x6)),.c (.v (.string x7)),.c (.sl 3 x8 none),.c (.sl 5 x9 none)]] (fun r bs=>(∃ (y0:Bool) (o0 o1:OV),(r=.c (.v (.bool y0))∧bs=[o0,o1])∧K0 y0)):=by
 obtain⟨O,hO⟩:∃ O,O=std 0 T G0 (Den Try.prog G0):=⟨_,rfl⟩
 have hLO:L=O.len:=by rw [hN,hO];rfl
 subst hLO
 refine den_h hO tiA mixed tabOk (fn:=Try.f29) (sh:=true) (by kernel_rfl) rfl rfl rfl rfl ?_
 intro Q b
 unfold p29_b at h
 conv=>cbv
 refine z0g hO tiA [2,3,43] [3000,4000] [] (fun tm m=>∃ (j1:Bool),((tm=frame 0 82 [(2,.p 3000 0 0),(3,.p 4000 0 0),(43,.c (.v (.bool j1)))]∧m=⟨[(3000,.blk 0 [.c (.v (.int .i64 x0)),.c (.v (.int .i64 x1)),.c (.v (.string x2)),.c (.sl 3 x3 none),.c (.sl 5 x4 none)]),(4000,.blk 0 [.c (.v (.int .i64 x5)),.c (.v (.int .i64 x6)),.c (.v (.string x7)),.c (.sl 3 x8 none),.c (.sl 5 x9 none)])],1⟩))∧p29_3 False fu (p29 False fu) K0 x3 x4 x8 x9 j1) (fun L hL_3=>?_) ?_
 conv=>cbv
 refine br_h hO h (by subst hO;rfl) (fun k6 h=>?_) (fun k6 h=>?_)
 conv=>cbv
 refine br_t hO k6 ?_
 conv=>cbv
 refine br_t hO k6 ?_
 conv=>cbv
 refine br_t hO k6 ?_
 conv=>cbv
 refine br_t hO k6 ?_
 conv=>cbv
 refine br_t hO k6 ?_
 conv=>cbv
 refine br_t hO rfl ?_
 conv=>cbv
 refine br_t hO rfl ?_
 conv=>cbv
 refine br_t hO rfl ?_
 conv=>cbv
 refine br_t hO rfl ?_
 conv=>cbv
 refine br_t hO rfl ?_
 conv=>cbv
 refine br_t hO rfl ?_
 conv=>cbv
 refine br_t hO rfl ?_
 conv=>cbv
 refine br_t hO rfl ?_
 conv=>cbv
 refine br_t hO rfl ?_
 conv=>cbv
 refine br_t hO rfl ?_
 conv=>cbv
 refine br_t hO rfl ?_
 conv=>cbv
 refine br_t hO rfl ?_
 conv=>cbv
 refine br_t hO rfl ?_
 conv=>cbv
 refine br_t hO rfl ?_
 conv=>cbv
 refine br_t hO rfl ?_
 conv=>cbv
 refine br_t hO rfl ?_
 conv=>cbv
 refine br_t hO rfl ?_
 conv=>cbv
 refine br_t hO rfl ?_
 conv=>cbv
 refine br_t hO rfl ?_
 conv=>cbv
 refine br_t hO rfl ?_
 conv=>cbv
 refine br_t hO rfl ?_
 conv=>cbv
 refine br_t hO rfl ?_
 conv=>cbv
 exact hL_3 _ _ ⟨true,⟨(by (conv=>lhs;cbv)<;>(subst hO;rfl)),(by (conv=>lhs;cbv)<;>(subst hO;rfl))⟩,h⟩
 conv=>cbv
 refine br_f hO k6 ?_
 conv=>cbv
 refine br_f hO k6 ?_
 conv=>cbv
 refine br_f hO k6 ?_
 conv=>cbv
 refine br_f hO k6 ?_
 conv=>cbv
 refine br_f hO k6 ?_
 conv=>cbv
 refine br_h hO h (by subst hO;rfl) (fun k7 h=>?_) (fun k7 h=>?_)
 conv=>cbv
 refine br_t hO k7 ?_
 conv=>cbv
 refine br_t hO k7 ?_
 conv=>cbv
 refine br_t hO k7 ?_
 conv=>cbv
 refine br_t hO k7 ?_
 conv=>cbv
 refine br_t hO k7 ?_
 conv=>cbv
 refine br_t hO rfl ?_
 conv=>cbv
 refine br_t hO rfl ?_
 conv=>cbv
 refine br_t hO rfl ?_
 conv=>cbv
 refine br_t hO rfl ?_
 conv=>cbv
 refine br_t hO rfl ?_
 conv=>cbv
 refine br_t hO rfl ?_
 conv=>cbv
 refine br_t hO rfl ?_
 conv=>cbv
 refine br_t hO rfl ?_
 conv=>cbv
 refine br_t hO rfl ?_
 conv=>cbv
 refine br_t hO rfl ?_
 conv=>cbv
 refine br_t hO rfl ?_
 conv=>cbv
 refine br_t hO rfl ?_
 conv=>cbv
 refine br_t hO rfl ?_
 conv=>cbv
 refine br_t hO rfl ?_
 conv=>cbv
 refine br_t hO rfl ?_
 conv=>cbv
 refine br_t hO rfl ?_
 conv=>cbv
 exact hL_3 _ _ ⟨true,⟨(by (conv=>lhs;cbv)<;>(subst hO;rfl)),(by (conv=>lhs;cbv)<;>(subst hO;rfl))⟩,h⟩
 conv=>cbv
 refine br_f hO k7 ?_
 conv=>cbv
 refine br_f hO k7 ?_
 conv=>cbv
 refine br_f hO k7 ?_
 conv=>cbv
 refine br_f hO k7 ?_
 conv=>cbv
 refine br_f hO k7 ?_
 conv=>cbv
 refine br_h hO h (by subst hO;rfl) (fun k8 h=>?_) (fun k8 h=>?_)
 conv=>cbv
 refine br_t hO k8 ?_
 conv=>cbv
 refine br_t hO k8 ?_
 conv=>cbv
 refine br_t hO k8 ?_
 conv=>cbv
 refine br_t hO k8 ?_
 conv=>cbv
 refine br_t hO k8 ?_
 conv=>cbv
 refine br_t hO k8 ?_
 conv=>cbv
 refine br_t hO k8 ?_
 conv=>cbv
 refine br_t hO rfl ?_
 conv=>cbv
 refine br_t hO rfl ?_
 conv=>cbv
 refine br_t hO rfl ?_
 conv=>cbv
 refine br_t hO rfl ?_
 conv=>cbv
 refine br_t hO rfl ?_
 conv=>cbv
 refine br_t hO rfl ?_
 conv=>cbv
 refine br_t hO rfl ?_
 conv=>cbv
 refine br_t hO rfl ?_
 conv=>cbv
 exact hL_3 _ _ ⟨true,⟨(by (conv=>lhs;cbv)<;>(subst hO;rfl)),(by (conv=>lhs;cbv)<;>(subst hO;rfl))⟩,h⟩
 conv=>cbv
 refine br_f hO k8 ?_
 conv=>cbv
 refine br_f hO k8 ?_
 conv=>cbv
 refine br_f hO k8 ?_
 conv=>cbv
 refine br_f hO k8 ?_
 conv=>cbv
 refine br_f hO k8 ?_
 conv=>cbv
 refine br_f hO k8 ?_
 conv=>cbv
 refine br_f hO k8 ?_
 conv=>cbv
 refine br_h hO h (by subst hO;rfl) (fun k9 h=>?_) (fun k9 h=>?_)
 conv=>cbv
 refine br_t hO k9 ?_
 conv=>cbv
 refine br_t hO k9 ?_
 conv=>cbv
 refine br_t hO k9 ?_
 conv=>cbv
 refine br_t hO k9 ?_
 conv=>cbv
 refine br_t hO k9 ?_
 conv=>cbv
 refine br_t hO k9 ?_
 conv=>cbv
 refine br_t hO k9 ?_
 conv=>cbv
 exact hL_3 _ _ ⟨true,⟨(by (conv=>lhs;cbv)<;>(subst hO;rfl)),(by (conv=>lhs;cbv)<;>(subst hO;rfl))⟩,h⟩
 conv=>cbv
 refine br_f hO k9 ?_
 conv=>cbv
 refine br_f hO k9 ?_
 conv=>cbv
 refine br_f hO k9 ?_
 conv=>cbv
 refine br_f hO k9 ?_
 conv=>cbv
 refine br_f hO k9 ?_
 conv=>cbv
 refine br_f hO k9 ?_
 conv=>cbv
 refine br_f hO k9 ?_
 conv=>cbv
 exact hL_3 _ _ ⟨(z0a .neq ((x4.length:Nat):Int) ((x9.length:Nat):Int)),⟨(by (conv=>lhs;cbv)<;>(subst hO;rfl)),(by (conv=>lhs;cbv)<;>(subst hO;rfl))⟩,h⟩
 rintro tm m ⟨j1,hs,h⟩
 unfold p29_3 at h
 obtain⟨rfl,rfl⟩:=hs
 conv=>cbv
 refine br_h hO h (by subst hO;rfl) (fun k1 h=>?_) (fun k1 h=>?_)
 conv=>cbv
 rw [b]
 exact⟨false,_,_,⟨(by subst hO;rfl),(by subst hO;rfl)⟩,h⟩
 conv=>cbv
 refine z0b hO ?_
 conv=>cbv
 refine z0r hO tiA [2,3,5] [3000,4000] [] (fun (n:Nat) tm m=>∃ (z2:Int),((tm=frame 0 82 [(2,.p 3000 0 0),(3,.p 4000 0 0),(5,.c (.v (.int .i64 z2)))]∧m=⟨[(3000,.blk 0 [.c (.v (.int .i64 x0)),.c (.v (.int .i64 x1)),.c (.v (.string x2)),.c (.sl 3 x3 none),.c (.sl 5 x4 none)]),(4000,.blk 0 [.c (.v (.int .i64 x5)),.c (.v (.int .i64 x6)),.c (.v (.string x7)),.c (.sl 3 x8 none),.c (.sl 5 x9 none)])],1⟩))∧p29_2L False fu (p29 False fu) K0 x3 x4 x8 x9 n z2) (fun n=>n) fu ⟨0,⟨(by (conv=>lhs;cbv)<;>(subst hO;rfl)),(by (conv=>lhs;cbv)<;>(subst hO;rfl))⟩,h⟩ ?_
 rintro n1 tm m L ⟨z2,hs,h⟩ hLn1
 (cases n1 with
 | zero=>rw [p29_2L] at h;exact h.elim
 | succ n1 =>
 rw [p29_2L] at h
 unfold p29_2 at h
 obtain⟨rfl,rfl⟩:=hs
 conv=>cbv
 refine br_h hO h (by subst hO;rfl) (fun k2 h=>?_) (fun k2 h=>?_)
 conv=>cbv
 refine z0b hO ?_
 conv=>cbv
 refine z0o hO tiA [[],[]] [(0,true,false),(1,true,false),(2,true,false),(3,true,false),(4,true,false),(5,true,false),(6,true,false),(7,true,false),(8,true,false),(9,true,false),(10,false,true),(11,true,true)] (by kernel_rfl) ?_
 conv=>cbv
 refine and_h h (fun g=>(by subst hO;exact g)) (fun h=>?_)
 refine and_h h (fun g=>(by subst hO;exact g)) (fun h=>?_)
 obtain⟨c3,c4,c5,hr,h⟩:=z0v h
 refine z1a hO _ (by subst hO;exact hr) ?_
 clear hr
 conv=>cbv
 refine and_h h (fun g=>(by subst hO;exact g)) (fun h=>?_)
 refine and_h h (fun g=>(by subst hO;exact g)) (fun h=>?_)
 obtain⟨c6,c7,c8,hr,h⟩:=z0v h
 refine z1a hO _ (by subst hO;exact hr) ?_
 clear hr
 conv=>cbv
 refine z0d hO [.shut,.shut] (d_p51 fu O.len hN h) ?_
 intro e Q a b
 conv=>cbv
 refine⟨by subst a hO;rfl,?_⟩
 intro r bs d
 rw [b] at d
 clear a b h
 obtain⟨y9,_,_,⟨rfl,rfl⟩,h⟩:=d
 conv=>cbv
 refine z0b hO ?_
 conv=>cbv
 refine br_h hO h (by subst hO;rfl) (fun k3 h=>?_) (fun k3 h=>?_)
 conv=>cbv
 rw [b]
 exact⟨false,_,_,⟨(by subst hO;rfl),(by subst hO;rfl)⟩,h⟩
 conv=>cbv
 refine z0b hO ?_
 conv=>cbv
 exact hLn1 n1 _ _ (Nat.lt_succ_self n1) ⟨z0c .add .i64 z2 1,⟨(by (conv=>lhs;cbv)<;>(subst hO;rfl)),(by (conv=>lhs;cbv)<;>(subst hO;rfl))⟩,h⟩
 conv=>cbv
 refine z0r hO tiA [2,3,6] [3000,4000] [] (fun (n:Nat) tm m=>∃ (z10:Int),((tm=frame 0 82 [(2,.p 3000 0 0),(3,.p 4000 0 0),(6,.c (.v (.int .i64 z10)))]∧m=⟨[(3000,.blk 0 [.c (.v (.int .i64 x0)),.c (.v (.int .i64 x1)),.c (.v (.string x2)),.c (.sl 3 x3 none),.c (.sl 5 x4 none)]),(4000,.blk 0 [.c (.v (.int .i64 x5)),.c (.v (.int .i64 x6)),.c (.v (.string x7)),.c (.sl 3 x8 none),.c (.sl 5 x9 none)])],1⟩))∧p29_1L False fu (p29 False fu) K0 x4 x9 n z10) (fun n=>n) fu ⟨0,⟨(by (conv=>lhs;cbv)<;>(subst hO;rfl)),(by (conv=>lhs;cbv)<;>(subst hO;rfl))⟩,h⟩ ?_
 rintro n2 tm m L ⟨z10,hs,h⟩ hLn2
 (cases n2 with
 | zero=>rw [p29_1L] at h;exact h.elim
 | succ n2 =>
 rw [p29_1L] at h
 unfold p29_1 at h
 obtain⟨rfl,rfl⟩:=hs
 conv=>cbv
 refine br_h hO h (by subst hO;rfl) (fun k4 h=>?_) (fun k4 h=>?_)
 conv=>cbv
 refine z0b hO ?_
 conv=>cbv
 refine z0o hO tiA [[],[]] [(0,true,false),(1,true,false),(2,true,false),(3,true,false),(4,true,false),(5,true,false),(6,true,false),(7,true,false),(8,true,false),(9,true,false),(10,false,true),(11,true,true)] (by kernel_rfl) ?_
 conv=>cbv
 refine and_h h (fun g=>(by subst hO;exact g)) (fun h=>?_)
 refine and_h h (fun g=>(by subst hO;exact g)) (fun h=>?_)
 obtain⟨c11,c12,c13,c14,c15,hr,h⟩:=z0s h
 refine z1a hO _ (by subst hO;exact hr) ?_
 clear hr
 conv=>cbv
 refine and_h h (fun g=>(by subst hO;exact g)) (fun h=>?_)
 refine and_h h (fun g=>(by subst hO;exact g)) (fun h=>?_)
 obtain⟨c16,c17,c18,c19,c20,hr,h⟩:=z0s h
 refine z1a hO _ (by subst hO;exact hr) ?_
 clear hr
 conv=>cbv
 refine z0d hO [.shut,.shut] (ih_p29 O.len hN h) ?_
 intro e Q a b
 conv=>cbv
 refine⟨by subst a hO;rfl,?_⟩
 intro r bs d
 rw [b] at d
 clear a b h
 obtain⟨y21,_,_,⟨rfl,rfl⟩,h⟩:=d
 conv=>cbv
 refine z0b hO ?_
 conv=>cbv
 refine br_h hO h (by subst hO;rfl) (fun k5 h=>?_) (fun k5 h=>?_)
 conv=>cbv
 rw [b]
 exact⟨false,_,_,⟨(by subst hO;rfl),(by subst hO;rfl)⟩,h⟩
 conv=>cbv
 refine z0b hO ?_
 conv=>cbv
 exact hLn2 n2 _ _ (Nat.lt_succ_self n2) ⟨z0c .add .i64 z10 1,⟨(by (conv=>lhs;cbv)<;>(subst hO;rfl)),(by (conv=>lhs;cbv)<;>(subst hO;rfl))⟩,h⟩
 conv=>cbv
 rw [b]
 exact⟨true,_,_,⟨(by subst hO;rfl),(by subst hO;rfl)⟩,h⟩))
theorem dd_p29 (fu:Nat):D_p29 fu:=by
 induction fu with
 | zero=>unfold D_p29;intros;rename_i h;rw [p29] at h;exact h.elim
 | succ n ih =>
  exact (by unfold D_p29;intro K0 L hN x0 x1 x2 x3 x4 x5 x6 x7 x8 x9 h;exact b_p29 n ih L hN (by rw [p29] at h;exact h))
theorem d_p29 (fu:Nat):D_p29 fu:=dd_p29 fu
theorem d_p28 (fu:Nat){K0:Bool→Prop}(L:EL→Nat)(hN:L=List.length){x0 x1 x2:Int}{x3 x4:ByteArray}{x5 x6:Int}{x7:ByteArray}{x8 x9:EL}{x10 x11:Int}{x12:ByteArray}{x13 x14 x15:EL}{x16 x17 x18:Int}{x19 x20:ByteArray}{x21 x22:Int}{x23:ByteArray}{x24 x25:EL}{x26 x27:Int}{x28:ByteArray}{x29 x30 x31:EL}(h:p28 False fu K0 x0 x1 x2 x3 x4 x5 x6 x7 x8 x9 x10 x11 x12 x13 x14 x15 x16 x17 x18 x19 x20 x21 x22 x23 x24 x25 x26 x27 x28 x29 x30 x31):Den Try.prog G0 28 [.agg [.c (.v (.int .i64 x0)),.c (.v (.int .i64 x1)),.c (.v (.int .i64 x2)),.c (.v (.string x3)),.c (.v (.string x4)),.c (.v (.int .i64 x5)),.c (.v (.int .i64 x6)),.c (.v (.string x7)),.c (.sl 3 x8 none),.c (.sl 5 x9 none),.c (.v (.int .i64 x10)),.c (.v (.int .i64 x11)),.c (.v (.string x12)),.c (.sl 3 x13 none),.c (.sl 5 x14 none),.c (.sl 6 x15 none)],.agg [.c (.v (.int .i64 x16)),.c (.v (.int .i64 x17)),.c (.v (.int .i64 x18)),.c (.v (.string x19)),.c (.v (.string x20)),.c (.v (.int .i64 x21)),.c (.v (.int .i64 x22)),.c (.v (.string x23)),.c (.sl 3 x24 none),.c (.sl 5 x25 none),.c (.v (.int .i64 x26)),.c (.v (.int .i64 x27)),.c (.v (.string x28)),.c (.sl 3 x29 none),.c (.sl 5 x30 none),.c (.sl 6 x31 none)]] (fun r bs=>(∃ (y0:Bool) (o0 o1:OV),(r=.c (.v (.bool y0))∧bs=[o0,o1])∧K0 y0)):=by
 obtain⟨O,hO⟩:∃ O,O=std 0 T G0 (Den Try.prog G0):=⟨_,rfl⟩
 have hLO:L=O.len:=by rw [hN,hO];rfl
 subst hLO
 refine den_h hO tiA mixed tabOk (fn:=Try.f28) (sh:=true) (by kernel_rfl) rfl rfl rfl rfl ?_
 intro Q b
 unfold p28 at h
 conv=>cbv
 refine z0g hO tiA [2,3,63] [3000,4000] [] (fun tm m=>∃ (j1:Bool),((tm=frame 0 100 [(2,.p 3000 0 0),(3,.p 4000 0 0),(63,.c (.v (.bool j1)))]∧m=⟨[(3000,.blk 0 [.c (.v (.int .i64 x0)),.c (.v (.int .i64 x1)),.c (.v (.int .i64 x2)),.c (.v (.string x3)),.c (.v (.string x4)),.c (.v (.int .i64 x5)),.c (.v (.int .i64 x6)),.c (.v (.string x7)),.c (.sl 3 x8 none),.c (.sl 5 x9 none),.c (.v (.int .i64 x10)),.c (.v (.int .i64 x11)),.c (.v (.string x12)),.c (.sl 3 x13 none),.c (.sl 5 x14 none),.c (.sl 6 x15 none)]),(4000,.blk 0 [.c (.v (.int .i64 x16)),.c (.v (.int .i64 x17)),.c (.v (.int .i64 x18)),.c (.v (.string x19)),.c (.v (.string x20)),.c (.v (.int .i64 x21)),.c (.v (.int .i64 x22)),.c (.v (.string x23)),.c (.sl 3 x24 none),.c (.sl 5 x25 none),.c (.v (.int .i64 x26)),.c (.v (.int .i64 x27)),.c (.v (.string x28)),.c (.sl 3 x29 none),.c (.sl 5 x30 none),.c (.sl 6 x31 none)])],1⟩))∧p28_3 False fu K0 x15 x31 j1) (fun L hL_3=>?_) ?_
 conv=>cbv
 refine br_h hO h (by subst hO;rfl) (fun k5 h=>?_) (fun k5 h=>?_)
 conv=>cbv
 refine br_t hO k5 ?_
 conv=>cbv
 refine br_t hO k5 ?_
 conv=>cbv
 refine br_t hO k5 ?_
 conv=>cbv
 refine br_t hO k5 ?_
 conv=>cbv
 refine br_t hO k5 ?_
 conv=>cbv
 refine br_t hO rfl ?_
 conv=>cbv
 refine br_t hO rfl ?_
 conv=>cbv
 refine br_t hO rfl ?_
 conv=>cbv
 refine br_t hO rfl ?_
 conv=>cbv
 refine br_t hO rfl ?_
 conv=>cbv
 refine br_t hO rfl ?_
 conv=>cbv
 refine br_t hO rfl ?_
 conv=>cbv
 refine br_t hO rfl ?_
 conv=>cbv
 refine br_t hO rfl ?_
 conv=>cbv
 refine br_t hO rfl ?_
 conv=>cbv
 refine br_t hO rfl ?_
 conv=>cbv
 refine br_t hO rfl ?_
 conv=>cbv
 refine br_t hO rfl ?_
 conv=>cbv
 refine br_t hO rfl ?_
 conv=>cbv
 refine br_t hO rfl ?_
 conv=>cbv
 refine br_t hO rfl ?_
 conv=>cbv
 refine br_t hO rfl ?_
 conv=>cbv
 refine br_t hO rfl ?_
 conv=>cbv
 refine br_t hO rfl ?_
 conv=>cbv
 refine br_t hO rfl ?_
 conv=>cbv
 refine br_t hO rfl ?_
 conv=>cbv
 refine br_t hO rfl ?_
 conv=>cbv
 refine br_t hO rfl ?_
 conv=>cbv
 refine br_t hO rfl ?_
 conv=>cbv
 refine br_t hO rfl ?_
 conv=>cbv
 refine br_t hO rfl ?_
 conv=>cbv
 refine br_t hO rfl ?_
 conv=>cbv
 refine br_t hO rfl ?_
 conv=>cbv
 refine br_t hO rfl ?_
 conv=>cbv
 refine br_t hO rfl ?_
 conv=>cbv
 refine br_t hO rfl ?_
 conv=>cbv
 refine br_t hO rfl ?_
 conv=>cbv
 refine br_t hO rfl ?_
 conv=>cbv
 refine br_t hO rfl ?_
 conv=>cbv
 refine br_t hO rfl ?_
 conv=>cbv
 refine br_t hO rfl ?_
 conv=>cbv
 refine br_t hO rfl ?_
 conv=>cbv
 refine br_t hO rfl ?_
 conv=>cbv
 refine br_t hO rfl ?_
 conv=>cbv
 refine br_t hO rfl ?_
 conv=>cbv
 exact hL_3 _ _ ⟨true,⟨(by (conv=>lhs;cbv)<;>(subst hO;rfl)),(by (conv=>lhs;cbv)<;>(subst hO;rfl))⟩,h⟩
 conv=>cbv
 refine br_f hO k5 ?_
 conv=>cbv
 refine br_f hO k5 ?_
 conv=>cbv
 refine br_f hO k5 ?_
 conv=>cbv
 refine br_f hO k5 ?_
 conv=>cbv
 refine br_f hO k5 ?_
 conv=>cbv
 refine br_h hO h (by subst hO;rfl) (fun k6 h=>?_) (fun k6 h=>?_)
 conv=>cbv
 refine br_t hO k6 ?_
 conv=>cbv
 refine br_t hO k6 ?_
 conv=>cbv
 refine br_t hO k6 ?_
 conv=>cbv
 refine br_t hO k6 ?_
 conv=>cbv
 refine br_t hO k6 ?_
 conv=>cbv
 refine br_t hO rfl ?_
 conv=>cbv
 refine br_t hO rfl ?_
 conv=>cbv
 refine br_t hO rfl ?_
 conv=>cbv
 refine br_t hO rfl ?_
 conv=>cbv
 refine br_t hO rfl ?_
 conv=>cbv
 refine br_t hO rfl ?_
 conv=>cbv
 refine br_t hO rfl ?_
 conv=>cbv
 refine br_t hO rfl ?_
 conv=>cbv
 refine br_t hO rfl ?_
 conv=>cbv
 refine br_t hO rfl ?_
 conv=>cbv
 refine br_t hO rfl ?_
 conv=>cbv
 refine br_t hO rfl ?_
 conv=>cbv
 refine br_t hO rfl ?_
 conv=>cbv
 refine br_t hO rfl ?_
 conv=>cbv
 refine br_t hO rfl ?_
 conv=>cbv
 refine br_t hO rfl ?_
 conv=>cbv
 refine br_t hO rfl ?_
 conv=>cbv
 refine br_t hO rfl ?_
 conv=>cbv
 refine br_t hO rfl ?_
 conv=>cbv
 refine br_t hO rfl ?_
 conv=>cbv
 refine br_t hO rfl ?_
 conv=>cbv
 refine br_t hO rfl ?_
 conv=>cbv
 refine br_t hO rfl ?_
 conv=>cbv
 refine br_t hO rfl ?_
 conv=>cbv
 refine br_t hO rfl ?_
 conv=>cbv
 refine br_t hO rfl ?_
 conv=>cbv
 refine br_t hO rfl ?_
 conv=>cbv
 refine br_t hO rfl ?_
 conv=>cbv
 refine br_t hO rfl ?_
 conv=>cbv
 refine br_t hO rfl ?_
 conv=>cbv
 refine br_t hO rfl ?_
 conv=>cbv
 refine br_t hO rfl ?_
 conv=>cbv
 refine br_t hO rfl ?_
 conv=>cbv
 refine br_t hO rfl ?_
 conv=>cbv
 exact hL_3 _ _ ⟨true,⟨(by (conv=>lhs;cbv)<;>(subst hO;rfl)),(by (conv=>lhs;cbv)<;>(subst hO;rfl))⟩,h⟩
 conv=>cbv
 refine br_f hO k6 ?_
 conv=>cbv
 refine br_f hO k6 ?_
 conv=>cbv
 refine br_f hO k6 ?_
 conv=>cbv
 refine br_f hO k6 ?_
 conv=>cbv
 refine br_f hO k6 ?_
 conv=>cbv
 refine br_h hO h (by subst hO;rfl) (fun k7 h=>?_) (fun k7 h=>?_)
 conv=>cbv
 refine br_t hO k7 ?_
 conv=>cbv
 refine br_t hO k7 ?_
 conv=>cbv
 refine br_t hO k7 ?_
 conv=>cbv
 refine br_t hO k7 ?_
 conv=>cbv
 refine br_t hO k7 ?_
 conv=>cbv
 refine br_t hO rfl ?_
 conv=>cbv
 refine br_t hO rfl ?_
 conv=>cbv
 refine br_t hO rfl ?_
 conv=>cbv
 refine br_t hO rfl ?_
 conv=>cbv
 refine br_t hO rfl ?_
 conv=>cbv
 refine br_t hO rfl ?_
 conv=>cbv
 refine br_t hO rfl ?_
 conv=>cbv
 refine br_t hO rfl ?_
 conv=>cbv
 refine br_t hO rfl ?_
 conv=>cbv
 refine br_t hO rfl ?_
 conv=>cbv
 refine br_t hO rfl ?_
 conv=>cbv
 refine br_t hO rfl ?_
 conv=>cbv
 refine br_t hO rfl ?_
 conv=>cbv
 refine br_t hO rfl ?_
 conv=>cbv
 refine br_t hO rfl ?_
 conv=>cbv
 refine br_t hO rfl ?_
 conv=>cbv
 refine br_t hO rfl ?_
 conv=>cbv
 refine br_t hO rfl ?_
 conv=>cbv
 refine br_t hO rfl ?_
 conv=>cbv
 refine br_t hO rfl ?_
 conv=>cbv
 refine br_t hO rfl ?_
 conv=>cbv
 refine br_t hO rfl ?_
 conv=>cbv
 refine br_t hO rfl ?_
 conv=>cbv
 refine br_t hO rfl ?_
 conv=>cbv
 refine br_t hO rfl ?_
 conv=>cbv
 refine br_t hO rfl ?_
 conv=>cbv
 refine br_t hO rfl ?_
 conv=>cbv
 refine br_t hO rfl ?_
 conv=>cbv
 exact hL_3 _ _ ⟨true,⟨(by (conv=>lhs;cbv)<;>(subst hO;rfl)),(by (conv=>lhs;cbv)<;>(subst hO;rfl))⟩,h⟩
 conv=>cbv
 refine br_f hO k7 ?_
 conv=>cbv
 refine br_f hO k7 ?_
 conv=>cbv
 refine br_f hO k7 ?_
 conv=>cbv
 refine br_f hO k7 ?_
 conv=>cbv
 refine br_f hO k7 ?_
 conv=>cbv
 refine br_h hO h (by subst hO;rfl) (fun k8 h=>?_) (fun k8 h=>?_)
 conv=>cbv
 refine br_t hO k8 ?_
 conv=>cbv
 refine br_t hO k8 ?_
 conv=>cbv
 refine br_t hO k8 ?_
 conv=>cbv
 refine br_t hO k8 ?_
 conv=>cbv
 refine br_t hO k8 ?_
 conv=>cbv
 refine br_t hO rfl ?_
 conv=>cbv
 refine br_t hO rfl ?_
 conv=>cbv
 refine br_t hO rfl ?_
 conv=>cbv
 refine br_t hO rfl ?_
 conv=>cbv
 refine br_t hO rfl ?_
 conv=>cbv
 refine br_t hO rfl ?_
 conv=>cbv
 refine br_t hO rfl ?_
 conv=>cbv
 refine br_t hO rfl ?_
 conv=>cbv
 refine br_t hO rfl ?_
 conv=>cbv
 refine br_t hO rfl ?_
 conv=>cbv
 refine br_t hO rfl ?_
 conv=>cbv
 refine br_t hO rfl ?_
 conv=>cbv
 refine br_t hO rfl ?_
 conv=>cbv
 refine br_t hO rfl ?_
 conv=>cbv
 refine br_t hO rfl ?_
 conv=>cbv
 refine br_t hO rfl ?_
 conv=>cbv
 refine br_t hO rfl ?_
 conv=>cbv
 refine br_t hO rfl ?_
 conv=>cbv
 refine br_t hO rfl ?_
 conv=>cbv
 refine br_t hO rfl ?_
 conv=>cbv
 refine br_t hO rfl ?_
 conv=>cbv
 refine br_t hO rfl ?_
 conv=>cbv
 exact hL_3 _ _ ⟨true,⟨(by (conv=>lhs;cbv)<;>(subst hO;rfl)),(by (conv=>lhs;cbv)<;>(subst hO;rfl))⟩,h⟩
 conv=>cbv
 refine br_f hO k8 ?_
 conv=>cbv
 refine br_f hO k8 ?_
 conv=>cbv
 refine br_f hO k8 ?_
 conv=>cbv
 refine br_f hO k8 ?_
 conv=>cbv
 refine br_f hO k8 ?_
 conv=>cbv
 refine br_h hO h (by subst hO;rfl) (fun k9 h=>?_) (fun k9 h=>?_)
 conv=>cbv
 refine br_t hO k9 ?_
 conv=>cbv
 refine br_t hO k9 ?_
 conv=>cbv
 refine br_t hO k9 ?_
 conv=>cbv
 refine br_t hO k9 ?_
 conv=>cbv
 refine br_t hO k9 ?_
 conv=>cbv
 refine br_t hO k9 ?_
 conv=>cbv
 refine br_t hO rfl ?_
 conv=>cbv
 refine br_t hO rfl ?_
 conv=>cbv
 refine br_t hO rfl ?_
 conv=>cbv
 refine br_t hO rfl ?_
 conv=>cbv
 refine br_t hO rfl ?_
 conv=>cbv
 refine br_t hO rfl ?_
 conv=>cbv
 refine br_t hO rfl ?_
 conv=>cbv
 refine br_t hO rfl ?_
 conv=>cbv
 refine br_t hO rfl ?_
 conv=>cbv
 refine br_t hO rfl ?_
 conv=>cbv
 refine br_t hO rfl ?_
 conv=>cbv
 refine br_t hO rfl ?_
 conv=>cbv
 refine br_t hO rfl ?_
 conv=>cbv
 refine br_t hO rfl ?_
 conv=>cbv
 refine br_t hO rfl ?_
 conv=>cbv
 exact hL_3 _ _ ⟨true,⟨(by (conv=>lhs;cbv)<;>(subst hO;rfl)),(by (conv=>lhs;cbv)<;>(subst hO;rfl))⟩,h⟩
 conv=>cbv
 refine br_f hO k9 ?_
 conv=>cbv
 refine br_f hO k9 ?_
 conv=>cbv
 refine br_f hO k9 ?_
 conv=>cbv
 refine br_f hO k9 ?_
 conv=>cbv
 refine z0d hO [.shut,.shut] (d_p29 fu O.len hN h) ?_
 intro e Q a b
 conv=>cbv
 refine⟨by subst a hO;rfl,?_⟩
 intro r bs d
 rw [b] at d
 clear a b h
 obtain⟨y29,_,_,⟨rfl,rfl⟩,h⟩:=d
 conv=>cbv
 refine br_f hO k9 ?_
 conv=>cbv
 refine br_f hO k9 ?_
 conv=>cbv
 refine br_h hO h (by subst hO;rfl) (fun k10 h=>?_) (fun k10 h=>?_)
 conv=>cbv
 refine br_t hO k10 ?_
 conv=>cbv
 refine br_t hO k10 ?_
 conv=>cbv
 refine br_t hO k10 ?_
 conv=>cbv
 refine br_t hO k10 ?_
 conv=>cbv
 refine br_t hO k10 ?_
 conv=>cbv
 refine br_t hO k10 ?_
 conv=>cbv
 refine br_t hO rfl ?_
 conv=>cbv
 refine br_t hO rfl ?_
 conv=>cbv
 refine br_t hO rfl ?_
 conv=>cbv
 refine br_t hO rfl ?_
 conv=>cbv
 refine br_t hO rfl ?_
 conv=>cbv
 refine br_t hO rfl ?_
 conv=>cbv
 refine br_t hO rfl ?_
 conv=>cbv
 refine br_t hO rfl ?_
 conv=>cbv
 exact hL_3 _ _ ⟨true,⟨(by (conv=>lhs;cbv)<;>(subst hO;rfl)),(by (conv=>lhs;cbv)<;>(subst hO;rfl))⟩,h⟩
 conv=>cbv
 refine br_f hO k10 ?_
 conv=>cbv
 refine br_f hO k10 ?_
 conv=>cbv
 refine br_f hO k10 ?_
 conv=>cbv
 refine br_f hO k10 ?_
 conv=>cbv
 refine z0d hO [.shut,.shut] (d_p29 fu O.len hN h) ?_
 intro e Q a b
 conv=>cbv
 refine⟨by subst a hO;rfl,?_⟩
 intro r bs d
 rw [b] at d
 clear a b h
 obtain⟨y30,_,_,⟨rfl,rfl⟩,h⟩:=d
 conv=>cbv
 refine br_f hO k10 ?_
 conv=>cbv
 refine br_f hO k10 ?_
 conv=>cbv
 refine br_h hO h (by subst hO;rfl) (fun k11 h=>?_) (fun k11 h=>?_)
 conv=>cbv
 refine br_t hO k11 ?_
 conv=>cbv
 refine br_t hO k11 ?_
 conv=>cbv
 refine br_t hO k11 ?_
 conv=>cbv
 refine br_t hO k11 ?_
 conv=>cbv
 refine br_t hO k11 ?_
 conv=>cbv
 refine br_t hO k11 ?_
 conv=>cbv
 refine br_t hO k11 ?_
 conv=>cbv
 exact hL_3 _ _ ⟨true,⟨(by (conv=>lhs;cbv)<;>(subst hO;rfl)),(by (conv=>lhs;cbv)<;>(subst hO;rfl))⟩,h⟩
 conv=>cbv
 refine br_f hO k11 ?_
 conv=>cbv
 refine br_f hO k11 ?_
 conv=>cbv
 refine br_f hO k11 ?_
 conv=>cbv
 refine br_f hO k11 ?_
 conv=>cbv
 refine br_f hO k11 ?_
 conv=>cbv
 refine br_f hO k11 ?_
 conv=>cbv
 refine br_f hO k11 ?_
 conv=>cbv
 exact hL_3 _ _ ⟨(z0a .neq ((x15.length:Nat):Int) ((x31.length:Nat):Int)),⟨(by (conv=>lhs;cbv)<;>(subst hO;rfl)),(by (conv=>lhs;cbv)<;>(subst hO;rfl))⟩,h⟩
 rintro tm m ⟨j1,hs,h⟩
 unfold p28_3 at h
 obtain⟨rfl,rfl⟩:=hs
 conv=>cbv
 refine br_h hO h (by subst hO;rfl) (fun k1 h=>?_) (fun k1 h=>?_)
 conv=>cbv
 rw [b]
 exact⟨false,_,_,⟨(by subst hO;rfl),(by subst hO;rfl)⟩,h⟩
 conv=>cbv
 refine z0b hO ?_
 conv=>cbv
 refine z0r hO tiA [2,3,5] [3000,4000] [] (fun (n:Nat) tm m=>∃ (z2:Int),((tm=frame 0 100 [(2,.p 3000 0 0),(3,.p 4000 0 0),(5,.c (.v (.int .i64 z2)))]∧m=⟨[(3000,.blk 0 [.c (.v (.int .i64 x0)),.c (.v (.int .i64 x1)),.c (.v (.int .i64 x2)),.c (.v (.string x3)),.c (.v (.string x4)),.c (.v (.int .i64 x5)),.c (.v (.int .i64 x6)),.c (.v (.string x7)),.c (.sl 3 x8 none),.c (.sl 5 x9 none),.c (.v (.int .i64 x10)),.c (.v (.int .i64 x11)),.c (.v (.string x12)),.c (.sl 3 x13 none),.c (.sl 5 x14 none),.c (.sl 6 x15 none)]),(4000,.blk 0 [.c (.v (.int .i64 x16)),.c (.v (.int .i64 x17)),.c (.v (.int .i64 x18)),.c (.v (.string x19)),.c (.v (.string x20)),.c (.v (.int .i64 x21)),.c (.v (.int .i64 x22)),.c (.v (.string x23)),.c (.sl 3 x24 none),.c (.sl 5 x25 none),.c (.v (.int .i64 x26)),.c (.v (.int .i64 x27)),.c (.v (.string x28)),.c (.sl 3 x29 none),.c (.sl 5 x30 none),.c (.sl 6 x31 none)])],1⟩))∧p28_2L False fu K0 x15 x31 n z2) (fun n=>n) fu ⟨0,⟨(by (conv=>lhs;cbv)<;>(subst hO;rfl)),(by (conv=>lhs;cbv)<;>(subst hO;rfl))⟩,h⟩ ?_
 rintro n1 tm m L ⟨z2,hs,h⟩ hLn1
 (cases n1 with
 | zero=>rw [p28_2L] at h;exact h.elim
 | succ n1 =>
 rw [p28_2L] at h
 unfold p28_2 at h
 obtain⟨rfl,rfl⟩:=hs
 conv=>cbv
 refine br_h hO h (by subst hO;rfl) (fun k2 h=>?_) (fun k2 h=>?_)
 conv=>cbv
 refine z0b hO ?_
 conv=>cbv
 refine w0y hO tiA [[],[]] [(0,true,false),(1,true,false),(2,true,false),(3,true,false),(4,true,false),(5,true,false),(6,true,false),(7,true,false),(8,true,false),(9,true,false),(10,true,false),(11,true,false),(12,true,false),(13,true,false),(14,true,false),(15,true,false),(16,true,false),(17,true,false),(18,true,false),(19,true,false),(20,true,false),(21,true,false),(22,true,false),(23,true,false),(24,true,false),(25,true,false),(26,false,false),(27,true,false),(28,true,false)] (by kernel_rfl) [2,3,5,99] [3000,4000] [] (fun tm m=>∃ (j3:Bool),((tm=frame 0 100 [(2,.p 3000 0 0),(3,.p 4000 0 0),(5,.c (.v (.int .i64 z2))),(99,.c (.v (.bool j3)))]∧m=⟨[(3000,.blk 0 [.c (.v (.int .i64 x0)),.c (.v (.int .i64 x1)),.c (.v (.int .i64 x2)),.c (.v (.string x3)),.c (.v (.string x4)),.c (.v (.int .i64 x5)),.c (.v (.int .i64 x6)),.c (.v (.string x7)),.c (.sl 3 x8 none),.c (.sl 5 x9 none),.c (.v (.int .i64 x10)),.c (.v (.int .i64 x11)),.c (.v (.string x12)),.c (.sl 3 x13 none),.c (.sl 5 x14 none),.c (.sl 6 x15 none)]),(4000,.blk 0 [.c (.v (.int .i64 x16)),.c (.v (.int .i64 x17)),.c (.v (.int .i64 x18)),.c (.v (.string x19)),.c (.v (.string x20)),.c (.v (.int .i64 x21)),.c (.v (.int .i64 x22)),.c (.v (.string x23)),.c (.sl 3 x24 none),.c (.sl 5 x25 none),.c (.v (.int .i64 x26)),.c (.v (.int .i64 x27)),.c (.v (.string x28)),.c (.sl 3 x29 none),.c (.sl 5 x30 none),.c (.sl 6 x31 none)])],1⟩))∧p28_1 False fu K0 (p28_2L False fu K0 x15 x31 n1) z2 j3) (fun L hL_1=>?_) ?_
 conv=>cbv
 refine and_h h (fun g=>(by subst hO;exact g)) (fun h=>?_)
 refine and_h h (fun g=>(by subst hO;exact g)) (fun h=>?_)
 obtain⟨c4,c5,c6,c7,c8,c9,hr,h⟩:=z0x h
 refine z1a hO _ (by subst hO;exact hr) ?_
 clear hr
 conv=>cbv
 refine and_h h (fun g=>(by subst hO;exact g)) (fun h=>?_)
 refine and_h h (fun g=>(by subst hO;exact g)) (fun h=>?_)
 obtain⟨c10,c11,c12,c13,c14,c15,hr,h⟩:=z0x h
 refine z1a hO _ (by subst hO;exact hr) ?_
 clear hr
 conv=>cbv
 refine br_h hO h (by subst hO;rfl) (fun k4 h=>?_) (fun k4 h=>?_)
 conv=>cbv
 refine br_t hO k4 ?_
 conv=>cbv
 refine br_t hO k4 ?_
 conv=>cbv
 refine br_t hO k4 ?_
 conv=>cbv
 refine br_t hO k4 ?_
 conv=>cbv
 refine br_t hO k4 ?_
 conv=>cbv
 refine br_t hO k4 ?_
 conv=>cbv
 refine br_t hO k4 ?_
 conv=>cbv
 refine br_t hO k4 ?_
 conv=>cbv
 refine br_t hO k4 ?_
 conv=>cbv
 refine br_t hO k4 ?_
 conv=>cbv
 refine br_t hO k4 ?_
 conv=>cbv
 refine br_t hO k4 ?_
 conv=>cbv
 refine br_t hO k4 ?_
 conv=>cbv
 refine br_t hO k4 ?_
 conv=>cbv
 exact hL_1 _ _ ⟨true,⟨(by (conv=>lhs;cbv)<;>(subst hO;rfl)),(by (conv=>lhs;cbv)<;>(subst hO;rfl))⟩,h⟩
 conv=>cbv
 refine br_f hO k4 ?_
 conv=>cbv
 refine br_f hO k4 ?_
 conv=>cbv
 refine br_f hO k4 ?_
 conv=>cbv
 refine and_h h (fun g=>(by subst hO;exact g)) (fun h=>?_)
 refine and_h h (fun g=>(by subst hO;exact g)) (fun h=>?_)
 obtain⟨c16,c17,c18,c19,c20,c21,hr,h⟩:=z0x h
 refine z1a hO _ (by subst hO;exact hr) ?_
 clear hr
 conv=>cbv
 refine br_f hO k4 ?_
 conv=>cbv
 refine br_f hO k4 ?_
 conv=>cbv
 refine br_f hO k4 ?_
 conv=>cbv
 refine br_f hO k4 ?_
 conv=>cbv
 refine br_f hO k4 ?_
 conv=>cbv
 refine br_f hO k4 ?_
 conv=>cbv
 refine and_h h (fun g=>(by subst hO;exact g)) (fun h=>?_)
 refine and_h h (fun g=>(by subst hO;exact g)) (fun h=>?_)
 obtain⟨c22,c23,c24,c25,c26,c27,hr,h⟩:=z0x h
 refine z1a hO _ (by subst hO;exact hr) ?_
 clear hr
 conv=>cbv
 refine br_f hO k4 ?_
 conv=>cbv
 refine br_f hO k4 ?_
 conv=>cbv
 refine br_f hO k4 ?_
 conv=>cbv
 refine z0d hO [.shut,.shut] (d_p29 fu O.len hN h) ?_
 intro e Q a b
 conv=>cbv
 refine⟨by subst a hO;rfl,?_⟩
 intro r bs d
 rw [b] at d
 clear a b h
 obtain⟨y28,_,_,⟨rfl,rfl⟩,h⟩:=d
 conv=>cbv
 refine agr hO rfl rfl ?_
 refine br_f hO k4 ?_
 conv=>cbv
 refine br_f hO k4 ?_
 conv=>cbv
 exact hL_1 _ _ ⟨(!y28),⟨(by (conv=>lhs;cbv)<;>(subst hO;rfl)),(by (conv=>lhs;cbv)<;>(subst hO;rfl))⟩,h⟩
 rintro tm m ⟨j3,hs,h⟩
 unfold p28_1 at h
 obtain⟨rfl,rfl⟩:=hs
 conv=>cbv
 refine br_h hO h (by subst hO;rfl) (fun k3 h=>?_) (fun k3 h=>?_)
 conv=>cbv
 rw [b]
 exact⟨false,_,_,⟨(by subst hO;rfl),(by subst hO;rfl)⟩,h⟩
 conv=>cbv
 refine z0b hO ?_
 conv=>cbv
 exact hLn1 n1 _ _ (Nat.lt_succ_self n1) ⟨z0c .add .i64 z2 1,⟨(by (conv=>lhs;cbv)<;>(subst hO;rfl)),(by (conv=>lhs;cbv)<;>(subst hO;rfl))⟩,h⟩
 conv=>cbv
 rw [b]
 exact⟨true,_,_,⟨(by subst hO;rfl),(by subst hO;rfl)⟩,h⟩)
theorem d_p10 (fu:Nat){K0:Bool→Prop}(L:EL→Nat)(hN:L=List.length){x0 x1 x2 x3 x4 x5 x6 x7 x8 x9 x10:Int}{x11 x12:ByteArray}{x13 x14:Int}{x15:ByteArray}{x16 x17:EL}{x18 x19:Int}{x20:ByteArray}{x21 x22 x23:EL}{x24 x25:Int}{x26:ByteArray}{x27 x28:EL}{x29 x30:Int}{x31:ByteArray}{x32 x33:EL}{x34 x35 x36 x37 x38 x39 x40 x41 x42 x43 x44:Int}{x45 x46:ByteArray}{x47 x48:Int}{x49:ByteArray}{x50 x51:EL}{x52 x53:Int}{x54:ByteArray}{x55 x56 x57:EL}{x58 x59:Int}{x60:ByteArray}{x61 x62:EL}{x63 x64:Int}{x65:ByteArray}{x66 x67:EL}(h:p10 False fu K0 x0 x1 x2 x3 x4 x5 x6 x7 x8 x9 x10 x11 x12 x13 x14 x15 x16 x17 x18 x19 x20 x21 x22 x23 x24 x25 x26 x27 x28 x29 x30 x31 x32 x33 x34 x35 x36 x37 x38 x39 x40 x41 x42 x43 x44 x45 x46 x47 x48 x49 x50 x51 x52 x53 x54 x55 x56 x57 x58 x59 x60 x61 x62 x63 x64 x65 x66 x67):Den Try.prog G0 10 [.agg [.c (.v (.int .i64 x0)),.c (.v (.int .i64 x1)),.c (.v (.int .i64 x2)),.c (.v (.int .i64 x3)),.c (.v (.int .u64 x4)),.c (.v (.int .u64 x5)),.c (.v (.int .u64 x6)),.c (.v (.int .u64 x7)),.c (.v (.int .i64 x8)),.c (.v (.int .i64 x9)),.c (.v (.int .i64 x10)),.c (.v (.string x11)),.c (.v (.string x12)),.c (.v (.int .i64 x13)),.c (.v (.int .i64 x14)),.c (.v (.string x15)),.c (.sl 3 x16 none),.c (.sl 5 x17 none),.c (.v (.int .i64 x18)),.c (.v (.int .i64 x19)),.c (.v (.string x20)),.c (.sl 3 x21 none),.c (.sl 5 x22 none),.c (.sl 6 x23 none),.c (.v (.int .i64 x24)),.c (.v (.int .i64 x25)),.c (.v (.string x26)),.c (.sl 3 x27 none),.c (.sl 5 x28 none),.c (.v (.int .i64 x29)),.c (.v (.int .i64 x30)),.c (.v (.string x31)),.c (.sl 3 x32 none),.c (.sl 5 x33 none)],.agg [.c (.v (.int .i64 x34)),.c (.v (.int .i64 x35)),.c (.v (.int .i64 x36)),.c (.v (.int .i64 x37)),.c (.v (.int .u64 x38)),.c (.v (.int .u64 x39)),.c (.v (.int .u64 x40)),.c (.v (.int .u64 x41)),.c (.v (.int .i64 x42)),.c (.v (.int .i64 x43)),.c (.v (.int .i64 x44)),.c (.v (.string x45)),.c (.v (.string x46)),.c (.v (.int .i64 x47)),.c (.v (.int .i64 x48)),.c (.v (.string x49)),.c (.sl 3 x50 none),.c (.sl 5 x51 none),.c (.v (.int .i64 x52)),.c (.v (.int .i64 x53)),.c (.v (.string x54)),.c (.sl 3 x55 none),.c (.sl 5 x56 none),.c (.sl 6 x57 none),.c (.v (.int .i64 x58)),.c (.v (.int .i64 x59)),.c (.v (.string x60)),.c (.sl 3 x61 none),.c (.sl 5 x62 none),.c (.v (.int .i64 x63)),.c (.v (.int .i64 x64)),.c (.v (.string x65)),.c (.sl 3 x66 none),.c (.sl 5 x67 none)]] (fun r bs=>(∃ (y0:Bool) (o0 o1:OV),(r=.c (.v (.bool y0))∧bs=[o0,o1])∧K0 y0)):=by
 obtain⟨O,hO⟩:∃ O,O=std 0 T G0 (Den Try.prog G0):=⟨_,rfl⟩
 have hLO:L=O.len:=by rw [hN,hO];rfl
 subst hLO
 refine den_h hO tiA mixed tabOk (fn:=Try.f10) (sh:=true) (by kernel_rfl) rfl rfl rfl rfl ?_
 intro Q b
 unfold p10 at h
 conv=>cbv
 refine z0g hO tiA [4] [] [] (fun tm m=>∃ (j1:Bool),((tm=frame 0 66 [(4,.c (.v (.bool j1)))]∧m=⟨[],1⟩))∧p10_1 False fu K0 j1) (fun L hL_1=>?_) ?_
 conv=>cbv
 refine br_h hO h (by subst hO;rfl) (fun k1 h=>?_) (fun k1 h=>?_)
 conv=>cbv
 refine br_t hO k1 ?_
 conv=>cbv
 refine br_t hO k1 ?_
 conv=>cbv
 refine br_t hO k1 ?_
 conv=>cbv
 refine br_t hO k1 ?_
 conv=>cbv
 refine br_t hO k1 ?_
 conv=>cbv
 refine br_h hO h (by subst hO;rfl) (fun k2 h=>?_) (fun k2 h=>?_)
 conv=>cbv
 refine br_t hO k2 ?_
 conv=>cbv
 refine br_t hO k2 ?_
 conv=>cbv
 refine br_t hO k2 ?_
 conv=>cbv
 refine br_t hO k2 ?_
 conv=>cbv
 refine br_t hO k2 ?_
 conv=>cbv
 refine br_h hO h (by subst hO;rfl) (fun k3 h=>?_) (fun k3 h=>?_)
 conv=>cbv
 refine br_t hO k3 ?_
 conv=>cbv
 refine br_t hO k3 ?_
 conv=>cbv
 refine br_t hO k3 ?_
 conv=>cbv
 refine br_t hO k3 ?_
 conv=>cbv
 refine br_t hO k3 ?_
 conv=>cbv
 refine br_h hO h (by subst hO;rfl) (fun k4 h=>?_) (fun k4 h=>?_)
 conv=>cbv
 refine br_t hO k4 ?_
 conv=>cbv
 refine br_t hO k4 ?_
 conv=>cbv
 refine br_t hO k4 ?_
 conv=>cbv
 refine br_t hO k4 ?_
 conv=>cbv
 refine br_t hO k4 ?_
 conv=>cbv
 refine br_h hO h (by subst hO;rfl) (fun k5 h=>?_) (fun k5 h=>?_)
 conv=>cbv
 refine br_t hO k5 ?_
 conv=>cbv
 refine br_t hO k5 ?_
 conv=>cbv
 refine br_t hO k5 ?_
 conv=>cbv
 refine br_t hO k5 ?_
 conv=>cbv
 refine br_t hO k5 ?_
 conv=>cbv
 refine br_h hO h (by subst hO;rfl) (fun k6 h=>?_) (fun k6 h=>?_)
 conv=>cbv
 refine br_t hO k6 ?_
 conv=>cbv
 refine br_t hO k6 ?_
 conv=>cbv
 refine br_t hO k6 ?_
 conv=>cbv
 refine br_t hO k6 ?_
 conv=>cbv
 refine z0d hO [.shut,.shut] (d_p28 fu O.len hN h) ?_
 intro e Q a b
 conv=>cbv
 refine⟨by subst a hO;rfl,?_⟩
 intro r bs d
 rw [b] at d
 clear a b h
 obtain⟨y2,_,_,⟨rfl,rfl⟩,h⟩:=d
 conv=>cbv
 refine br_t hO k6 ?_
 conv=>cbv
 refine br_h hO h (by subst hO;rfl) (fun k7 h=>?_) (fun k7 h=>?_)
 conv=>cbv
 refine br_t hO k7 ?_
 conv=>cbv
 refine br_t hO k7 ?_
 conv=>cbv
 refine br_t hO k7 ?_
 conv=>cbv
 refine br_t hO k7 ?_
 conv=>cbv
 refine z0d hO [.shut,.shut] (d_p29 fu O.len hN h) ?_
 intro e Q a b
 conv=>cbv
 refine⟨by subst a hO;rfl,?_⟩
 intro r bs d
 rw [b] at d
 clear a b h
 obtain⟨y3,_,_,⟨rfl,rfl⟩,h⟩:=d
 conv=>cbv
 refine br_t hO k7 ?_
 conv=>cbv
 refine br_h hO h (by subst hO;rfl) (fun k8 h=>?_) (fun k8 h=>?_)
 conv=>cbv
 refine br_t hO k8 ?_
 conv=>cbv
 refine br_t hO k8 ?_
 conv=>cbv
 refine br_t hO k8 ?_
 conv=>cbv
 refine br_t hO k8 ?_
 conv=>cbv
 refine z0d hO [.shut,.shut] (d_p29 fu O.len hN h) ?_
 intro e Q a b
 conv=>cbv
 refine⟨by subst a hO;rfl,?_⟩
 intro r bs d
 rw [b] at d
 clear a b h
 obtain⟨y4,_,_,⟨rfl,rfl⟩,h⟩:=d
 conv=>cbv
 refine br_t hO k8 ?_
 conv=>cbv
 exact hL_1 _ _ ⟨y4,⟨(by (conv=>lhs;cbv)<;>(subst hO;rfl)),(by (conv=>lhs;cbv)<;>(subst hO;rfl))⟩,h⟩
 conv=>cbv
 refine br_f hO k8 ?_
 conv=>cbv
 refine br_f hO k8 ?_
 conv=>cbv
 refine br_f hO k8 ?_
 conv=>cbv
 refine br_f hO k8 ?_
 conv=>cbv
 refine br_f hO k8 ?_
 conv=>cbv
 exact hL_1 _ _ ⟨false,⟨(by (conv=>lhs;cbv)<;>(subst hO;rfl)),(by (conv=>lhs;cbv)<;>(subst hO;rfl))⟩,h⟩
 conv=>cbv
 refine br_f hO k7 ?_
 conv=>cbv
 refine br_f hO k7 ?_
 conv=>cbv
 refine br_f hO k7 ?_
 conv=>cbv
 refine br_f hO k7 ?_
 conv=>cbv
 refine br_f hO k7 ?_
 conv=>cbv
 refine br_f hO rfl ?_
 conv=>cbv
 refine br_f hO rfl ?_
 conv=>cbv
 refine br_f hO rfl ?_
 conv=>cbv
 refine br_f hO rfl ?_
 conv=>cbv
 refine br_f hO rfl ?_
 conv=>cbv
 refine br_f hO rfl ?_
 conv=>cbv
 exact hL_1 _ _ ⟨false,⟨(by (conv=>lhs;cbv)<;>(subst hO;rfl)),(by (conv=>lhs;cbv)<;>(subst hO;rfl))⟩,h⟩
 conv=>cbv
 refine br_f hO k6 ?_
 conv=>cbv
 refine br_f hO k6 ?_
 conv=>cbv
 refine br_f hO k6 ?_
 conv=>cbv
 refine br_f hO k6 ?_
 conv=>cbv
 refine br_f hO k6 ?_
 conv=>cbv
 refine br_f hO rfl ?_
 conv=>cbv
 refine br_f hO rfl ?_
 conv=>cbv
 refine br_f hO rfl ?_
 conv=>cbv
 refine br_f hO rfl ?_
 conv=>cbv
 refine br_f hO rfl ?_
 conv=>cbv
 refine br_f hO rfl ?_
 conv=>cbv
 refine br_f hO rfl ?_
 conv=>cbv
 refine br_f hO rfl ?_
 conv=>cbv
 refine br_f hO rfl ?_
 conv=>cbv
 refine br_f hO rfl ?_
 conv=>cbv
 refine br_f hO rfl ?_
 conv=>cbv
 refine br_f hO rfl ?_
 conv=>cbv
 exact hL_1 _ _ ⟨false,⟨(by (conv=>lhs;cbv)<;>(subst hO;rfl)),(by (conv=>lhs;cbv)<;>(subst hO;rfl))⟩,h⟩
 conv=>cbv
 refine br_f hO k5 ?_
 conv=>cbv
 refine br_f hO k5 ?_
 conv=>cbv
 refine br_f hO k5 ?_
 conv=>cbv
 refine br_f hO k5 ?_
 conv=>cbv
 refine br_f hO k5 ?_
 conv=>cbv
 refine br_f hO rfl ?_
 conv=>cbv
 refine br_f hO rfl ?_
 conv=>cbv
 refine br_f hO rfl ?_
 conv=>cbv
 refine br_f hO rfl ?_
 conv=>cbv
 refine br_f hO rfl ?_
 conv=>cbv
 refine br_f hO rfl ?_
 conv=>cbv
 refine br_f hO rfl ?_
 conv=>cbv
 refine br_f hO rfl ?_
 conv=>cbv
 refine br_f hO rfl ?_
 conv=>cbv
 refine br_f hO rfl ?_
 conv=>cbv
 refine br_f hO rfl ?_
 conv=>cbv
 refine br_f hO rfl ?_
 conv=>cbv
 refine br_f hO rfl ?_
 conv=>cbv
 refine br_f hO rfl ?_
 conv=>cbv
 refine br_f hO rfl ?_
 conv=>cbv
 refine br_f hO rfl ?_
 conv=>cbv
 refine br_f hO rfl ?_
 conv=>cbv
 refine br_f hO rfl ?_
 conv=>cbv
 exact hL_1 _ _ ⟨false,⟨(by (conv=>lhs;cbv)<;>(subst hO;rfl)),(by (conv=>lhs;cbv)<;>(subst hO;rfl))⟩,h⟩
 conv=>cbv
 refine br_f hO k4 ?_
 conv=>cbv
 refine br_f hO k4 ?_
 conv=>cbv
 refine br_f hO k4 ?_
 conv=>cbv
 refine br_f hO k4 ?_
 conv=>cbv
 refine br_f hO k4 ?_
 conv=>cbv
 refine br_f hO rfl ?_
 conv=>cbv
 refine br_f hO rfl ?_
 conv=>cbv
 refine br_f hO rfl ?_
 conv=>cbv
 refine br_f hO rfl ?_
 conv=>cbv
 refine br_f hO rfl ?_
 conv=>cbv
 refine br_f hO rfl ?_
 conv=>cbv
 refine br_f hO rfl ?_
 conv=>cbv
 refine br_f hO rfl ?_
 conv=>cbv
 refine br_f hO rfl ?_
 conv=>cbv
 refine br_f hO rfl ?_
 conv=>cbv
 refine br_f hO rfl ?_
 conv=>cbv
 refine br_f hO rfl ?_
 conv=>cbv
 refine br_f hO rfl ?_
 conv=>cbv
 refine br_f hO rfl ?_
 conv=>cbv
 refine br_f hO rfl ?_
 conv=>cbv
 refine br_f hO rfl ?_
 conv=>cbv
 refine br_f hO rfl ?_
 conv=>cbv
 refine br_f hO rfl ?_
 conv=>cbv
 refine br_f hO rfl ?_
 conv=>cbv
 refine br_f hO rfl ?_
 conv=>cbv
 refine br_f hO rfl ?_
 conv=>cbv
 refine br_f hO rfl ?_
 conv=>cbv
 refine br_f hO rfl ?_
 conv=>cbv
 refine br_f hO rfl ?_
 conv=>cbv
 exact hL_1 _ _ ⟨false,⟨(by (conv=>lhs;cbv)<;>(subst hO;rfl)),(by (conv=>lhs;cbv)<;>(subst hO;rfl))⟩,h⟩
 conv=>cbv
 refine br_f hO k3 ?_
 conv=>cbv
 refine br_f hO k3 ?_
 conv=>cbv
 refine br_f hO k3 ?_
 conv=>cbv
 refine br_f hO k3 ?_
 conv=>cbv
 refine br_f hO k3 ?_
 conv=>cbv
 refine br_f hO rfl ?_
 conv=>cbv
 refine br_f hO rfl ?_
 conv=>cbv
 refine br_f hO rfl ?_
 conv=>cbv
 refine br_f hO rfl ?_
 conv=>cbv
 refine br_f hO rfl ?_
 conv=>cbv
 refine br_f hO rfl ?_
 conv=>cbv
 refine br_f hO rfl ?_
 conv=>cbv
 refine br_f hO rfl ?_
 conv=>cbv
 refine br_f hO rfl ?_
 conv=>cbv
 refine br_f hO rfl ?_
 conv=>cbv
 refine br_f hO rfl ?_
 conv=>cbv
 refine br_f hO rfl ?_
 conv=>cbv
 refine br_f hO rfl ?_
 conv=>cbv
 refine br_f hO rfl ?_
 conv=>cbv
 refine br_f hO rfl ?_
 conv=>cbv
 refine br_f hO rfl ?_
 conv=>cbv
 refine br_f hO rfl ?_
 conv=>cbv
 refine br_f hO rfl ?_
 conv=>cbv
 refine br_f hO rfl ?_
 conv=>cbv
 refine br_f hO rfl ?_
 conv=>cbv
 refine br_f hO rfl ?_
 conv=>cbv
 refine br_f hO rfl ?_
 conv=>cbv
 refine br_f hO rfl ?_
 conv=>cbv
 refine br_f hO rfl ?_
 conv=>cbv
 refine br_f hO rfl ?_
 conv=>cbv
 refine br_f hO rfl ?_
 conv=>cbv
 refine br_f hO rfl ?_
 conv=>cbv
 refine br_f hO rfl ?_
 conv=>cbv
 refine br_f hO rfl ?_
 conv=>cbv
 refine br_f hO rfl ?_
 conv=>cbv
 exact hL_1 _ _ ⟨false,⟨(by (conv=>lhs;cbv)<;>(subst hO;rfl)),(by (conv=>lhs;cbv)<;>(subst hO;rfl))⟩,h⟩
 conv=>cbv
 refine br_f hO k2 ?_
 conv=>cbv
 refine br_f hO k2 ?_
 conv=>cbv
 refine br_f hO k2 ?_
 conv=>cbv
 refine br_f hO k2 ?_
 conv=>cbv
 refine br_f hO k2 ?_
 conv=>cbv
 refine br_f hO rfl ?_
 conv=>cbv
 refine br_f hO rfl ?_
 conv=>cbv
 refine br_f hO rfl ?_
 conv=>cbv
 refine br_f hO rfl ?_
 conv=>cbv
 refine br_f hO rfl ?_
 conv=>cbv
 refine br_f hO rfl ?_
 conv=>cbv
 refine br_f hO rfl ?_
 conv=>cbv
 refine br_f hO rfl ?_
 conv=>cbv
 refine br_f hO rfl ?_
 conv=>cbv
 refine br_f hO rfl ?_
 conv=>cbv
 refine br_f hO rfl ?_
 conv=>cbv
 refine br_f hO rfl ?_
 conv=>cbv
 refine br_f hO rfl ?_
 conv=>cbv
 refine br_f hO rfl ?_
 conv=>cbv
 refine br_f hO rfl ?_
 conv=>cbv
 refine br_f hO rfl ?_
 conv=>cbv
 refine br_f hO rfl ?_
 conv=>cbv
 refine br_f hO rfl ?_
 conv=>cbv
 refine br_f hO rfl ?_
 conv=>cbv
 refine br_f hO rfl ?_
 conv=>cbv
 refine br_f hO rfl ?_
 conv=>cbv
 refine br_f hO rfl ?_
 conv=>cbv
 refine br_f hO rfl ?_
 conv=>cbv
 refine br_f hO rfl ?_
 conv=>cbv
 refine br_f hO rfl ?_
 conv=>cbv
 refine br_f hO rfl ?_
 conv=>cbv
 refine br_f hO rfl ?_
 conv=>cbv
 refine br_f hO rfl ?_
 conv=>cbv
 refine br_f hO rfl ?_
 conv=>cbv
 refine br_f hO rfl ?_
 conv=>cbv
 refine br_f hO rfl ?_
 conv=>cbv
 refine br_f hO rfl ?_
 conv=>cbv
 refine br_f hO rfl ?_
 conv=>cbv
 refine br_f hO rfl ?_
 conv=>cbv
 refine br_f hO rfl ?_
 conv=>cbv
 refine br_f hO rfl ?_
 conv=>cbv
 exact hL_1 _ _ ⟨false,⟨(by (conv=>lhs;cbv)<;>(subst hO;rfl)),(by (conv=>lhs;cbv)<;>(subst hO;rfl))⟩,h⟩
 conv=>cbv
 refine br_f hO k1 ?_
 conv=>cbv
 refine br_f hO k1 ?_
 conv=>cbv
 refine br_f hO k1 ?_
 conv=>cbv
 refine br_f hO k1 ?_
 conv=>cbv
 refine br_f hO k1 ?_
 conv=>cbv
 refine br_f hO rfl ?_
 conv=>cbv
 refine br_f hO rfl ?_
 conv=>cbv
 refine br_f hO rfl ?_
 conv=>cbv
 refine br_f hO rfl ?_
 conv=>cbv
 refine br_f hO rfl ?_
 conv=>cbv
 refine br_f hO rfl ?_
 conv=>cbv
 refine br_f hO rfl ?_
 conv=>cbv
 refine br_f hO rfl ?_
 conv=>cbv
 refine br_f hO rfl ?_
 conv=>cbv
 refine br_f hO rfl ?_
 conv=>cbv
 refine br_f hO rfl ?_
 conv=>cbv
 refine br_f hO rfl ?_
 conv=>cbv
 refine br_f hO rfl ?_
 conv=>cbv
 refine br_f hO rfl ?_
 conv=>cbv
 refine br_f hO rfl ?_
 conv=>cbv
 refine br_f hO rfl ?_
 conv=>cbv
 refine br_f hO rfl ?_
 conv=>cbv
 refine br_f hO rfl ?_
 conv=>cbv
 refine br_f hO rfl ?_
 conv=>cbv
 refine br_f hO rfl ?_
 conv=>cbv
 refine br_f hO rfl ?_
 conv=>cbv
 refine br_f hO rfl ?_
 conv=>cbv
 refine br_f hO rfl ?_
 conv=>cbv
 refine br_f hO rfl ?_
 conv=>cbv
 refine br_f hO rfl ?_
 conv=>cbv
 refine br_f hO rfl ?_
 conv=>cbv
 refine br_f hO rfl ?_
 conv=>cbv
 refine br_f hO rfl ?_
 conv=>cbv
 refine br_f hO rfl ?_
 conv=>cbv
 refine br_f hO rfl ?_
 conv=>cbv
 refine br_f hO rfl ?_
 conv=>cbv
 refine br_f hO rfl ?_
 conv=>cbv
 refine br_f hO rfl ?_
 conv=>cbv
 refine br_f hO rfl ?_
 conv=>cbv
 refine br_f hO rfl ?_
 conv=>cbv
 refine br_f hO rfl ?_
 conv=>cbv
 refine br_f hO rfl ?_
 conv=>cbv
 refine br_f hO rfl ?_
 conv=>cbv
 refine br_f hO rfl ?_
 conv=>cbv
 refine br_f hO rfl ?_
 conv=>cbv
 refine br_f hO rfl ?_
 conv=>cbv
 refine br_f hO rfl ?_
 conv=>cbv
 exact hL_1 _ _ ⟨false,⟨(by (conv=>lhs;cbv)<;>(subst hO;rfl)),(by (conv=>lhs;cbv)<;>(subst hO;rfl))⟩,h⟩
 rintro tm m ⟨j1,hs,h⟩
 unfold p10_1 at h
 obtain⟨rfl,rfl⟩:=hs
 conv=>cbv
 rw [b]
 exact⟨j1,_,_,⟨(by subst hO;rfl),(by subst hO;rfl)⟩,h⟩
theorem d_p3 (fu:Nat){K0:Bool→Prop}(L:EL→Nat)(hN:L=List.length){x0:EL}(h:p3 False fu K0 x0):Den Try.prog G0 3 [.c (.sl 1 x0 none)] (fun r bs=>(∃ (y0:Bool) (o0:OV),(r=.c (.v (.bool y0))∧bs=[o0])∧K0 y0)):=by
 obtain⟨O,hO⟩:∃ O,O=std 0 T G0 (Den Try.prog G0):=⟨_,rfl⟩
 have hLO:L=O.len:=by rw [hN,hO];rfl
 subst hLO
 refine den_h hO tiA mixed tabOk (fn:=Try.f3) (sh:=true) (by kernel_rfl) rfl rfl rfl rfl ?_
 intro Q b
 unfold p3 at h
 conv=>cbv
 refine z0d hO [] (d_p4 fu O.len hN h) ?_
 intro e Q a b
 conv=>cbv
 refine⟨by subst a hO;rfl,?_⟩
 intro r bs d
 rw [b] at d
 clear a b h
 obtain⟨y1,⟨rfl,rfl⟩,h⟩:=d
 conv=>cbv
 refine br_h hO h (by subst hO;rfl) (fun k1 h=>?_) (fun k1 h=>?_)
 conv=>cbv
 rw [b]
 exact⟨false,_,⟨(by subst hO;rfl),(by subst hO;rfl)⟩,h⟩
 conv=>cbv
 refine z0b hO ?_
 conv=>cbv
 refine br_h hO h (by subst hO;rfl) (fun k2 h=>?_) (fun k2 h=>?_)
 conv=>cbv
 rw [b]
 exact⟨true,_,⟨(by subst hO;rfl),(by subst hO;rfl)⟩,h⟩
 conv=>cbv
 refine z0b hO ?_
 conv=>cbv
 refine z0d hO [.shut] (d_p5 fu O.len hN h) ?_
 intro e Q a b
 conv=>cbv
 refine⟨by subst a hO;rfl,?_⟩
 intro r bs d
 rw [b] at d
 clear a b h
 obtain⟨y2,y3,y4,_,⟨rfl,rfl⟩,h⟩:=d
 conv=>cbv
 refine alt_l hO ?_
 conv=>cbv
 obtain⟨k3,h⟩:=z1f h
 obtain⟨k4,h⟩:=z1f h
 refine k0z hO (d_p6 fu O.len hN h) ?_ ?_
 subst hO;exact (k2m rfl k3 k4 w5s)
 intro r bs d
 clear h
 obtain⟨y5,y6,y7,y8,y9,y10,y11,y12,y13,y14,y15,y16,y17,y18,y19,y20,y21,y22,y23,y24,y25,y26,y27,y28,y29,y30,y31,y32,y33,y34,y35,y36,y37,y38,y39,_,⟨rfl,rfl⟩,h⟩:=d
 obtain⟨k5,h⟩:=z1f h
 obtain⟨k6,h⟩:=z1f h
 obtain⟨k7,h⟩:=z1f h
 obtain⟨k8,h⟩:=z1f h
 obtain⟨k9,h⟩:=z1f h
 obtain⟨k10,h⟩:=z1f h
 obtain⟨k11,h⟩:=z1f h
 obtain⟨k12,h⟩:=z1f h
 obtain⟨k13,h⟩:=z1f h
 refine⟨(by simp [safeO,z8r,safeC,safeP,safeE,k5,k6,k7,k8,k9,k10,k11,k12,k13]),?_⟩
 conv=>cbv
 refine z0d hO [.shut] (d_p7 fu O.len hN h) ?_
 intro e Q a b
 conv=>cbv
 refine⟨by subst a hO;rfl,?_⟩
 intro r bs d
 rw [b] at d
 clear a b h
 obtain⟨y40,y41,y42,y43,y44,y45,y46,y47,y48,y49,y50,y51,y52,y53,y54,y55,y56,y57,y58,y59,y60,y61,y62,y63,y64,y65,y66,y67,y68,y69,y70,y71,y72,y73,y74,_,⟨rfl,rfl⟩,h⟩:=d
 conv=>cbv
 refine z0g hO tiA [3,4,6,8] [5000,7000,16000] [] (fun tm m=>∃ (j75:Bool),((tm=frame 0 42 [(3,.t 16000 0 y4),(4,.p 5000 0 0),(6,.p 7000 0 0),(8,.c (.v (.bool j75)))]∧m=⟨[(5000,.blk 0 [.c (.v (.int .i64 y5)),.c (.v (.int .i64 y6)),.c (.v (.int .i64 y7)),.c (.v (.int .i64 y8)),.c (.v (.int .u64 y9)),.c (.v (.int .u64 y10)),.c (.v (.int .u64 y11)),.c (.v (.int .u64 y12)),.c (.v (.int .i64 y13)),.c (.v (.int .i64 y14)),.c (.v (.int .i64 y15)),.c (.v (.string y16)),.c (.v (.string y17)),.c (.v (.int .i64 y18)),.c (.v (.int .i64 y19)),.c (.v (.string y20)),.c (.sl 3 y21 none),.c (.sl 5 y22 none),.c (.v (.int .i64 y23)),.c (.v (.int .i64 y24)),.c (.v (.string y25)),.c (.sl 3 y26 none),.c (.sl 5 y27 none),.c (.sl 6 y28 none),.c (.v (.int .i64 y29)),.c (.v (.int .i64 y30)),.c (.v (.string y31)),.c (.sl 3 y32 none),.c (.sl 5 y33 none),.c (.v (.int .i64 y34)),.c (.v (.int .i64 y35)),.c (.v (.string y36)),.c (.sl 3 y37 none),.c (.sl 5 y38 none)]),(7000,.blk 0 [.c (.v (.int .i64 y40)),.c (.v (.int .i64 y41)),.c (.v (.int .i64 y42)),.c (.v (.int .i64 y43)),.c (.v (.int .u64 y44)),.c (.v (.int .u64 y45)),.c (.v (.int .u64 y46)),.c (.v (.int .u64 y47)),.c (.v (.int .i64 y48)),.c (.v (.int .i64 y49)),.c (.v (.int .i64 y50)),.c (.v (.string y51)),.c (.v (.string y52)),.c (.v (.int .i64 y53)),.c (.v (.int .i64 y54)),.c (.v (.string y55)),.c (.sl 3 y56 none),.c (.sl 5 y57 none),.c (.v (.int .i64 y58)),.c (.v (.int .i64 y59)),.c (.v (.string y60)),.c (.sl 3 y61 none),.c (.sl 5 y62 none),.c (.sl 6 y63 none),.c (.v (.int .i64 y64)),.c (.v (.int .i64 y65)),.c (.v (.string y66)),.c (.sl 3 y67 none),.c (.sl 5 y68 none),.c (.v (.int .i64 y69)),.c (.v (.int .i64 y70)),.c (.v (.string y71)),.c (.sl 3 y72 none),.c (.sl 5 y73 none)]),(16000,.arr 0 1 y2 (some y3) false)],1⟩))∧p3_2 False fu K0 y2 y4 y5 y6 y7 y8 y9 y10 y11 y12 y13 y14 y15 y16 y17 y18 y19 y20 y21 y22 y23 y24 y25 y26 y27 y28 y29 y30 y31 y32 y33 y34 y35 y36 y37 y38 y40 y41 y42 y43 y44 y45 y46 y47 y48 y49 y50 y51 y52 y53 y54 y55 y56 y57 y58 y59 y60 y61 y62 y63 y64 y65 y66 y67 y68 y69 y70 y71 y72 y73 j75) (fun L hL_2=>?_) ?_
 conv=>cbv
 refine br_h hO h (by subst hO;rfl) (fun k16 h=>?_) (fun k16 h=>?_)
 conv=>cbv
 refine br_t hO k16 ?_
 conv=>cbv
 refine br_t hO k16 ?_
 conv=>cbv
 obtain⟨k17,h⟩:=z1f h
 obtain⟨k18,h⟩:=z1f h
 obtain⟨k19,h⟩:=z1f h
 obtain⟨k20,h⟩:=z1f h
 refine k0z hO (d_p8 fu O.len hN h) ?_ ?_
 subst hO;exact (k2n rfl k17 k18 k19 k20 (k2o rfl w5s))
 intro r bs d
 clear h
 obtain⟨y78,_,_,⟨rfl,rfl⟩,h⟩:=d
 refine⟨(by simp [safeO,z8r,safeC,safeP,safeE]),?_⟩
 conv=>cbv
 refine br_t hO k16 ?_
 conv=>cbv
 exact hL_2 _ _ ⟨y78,⟨(by (conv=>lhs;cbv)<;>(subst hO;rfl)),(by (conv=>lhs;cbv)<;>(subst hO;rfl))⟩,h⟩
 conv=>cbv
 refine br_f hO k16 ?_
 conv=>cbv
 refine br_f hO k16 ?_
 conv=>cbv
 refine br_f hO k16 ?_
 conv=>cbv
 exact hL_2 _ _ ⟨false,⟨(by (conv=>lhs;cbv)<;>(subst hO;rfl)),(by (conv=>lhs;cbv)<;>(subst hO;rfl))⟩,h⟩
 rintro tm m ⟨j75,hs,h⟩
 unfold p3_2 at h
 obtain⟨rfl,rfl⟩:=hs
 conv=>cbv
 refine alt_l hO ?_
 conv=>cbv
 have hz:=z1f h
 have k15:=hz.1
 replace h:=hz.2
 clear hz
 refine z0d hO [.own] (w7r y2 (some y3) y4) ?_
 intro e Q a b
 conv=>cbv
 refine⟨(by subst hO;exact k15),?_⟩
 refine⟨by subst a hO;rfl,?_⟩
 intro r bs d
 rw [b] at d
 clear a b
 obtain⟨_,rfl,rfl⟩:=d
 conv=>cbv
 refine z0g hO tiA [2] [] [] (fun tm m=>∃ (j76:Bool),((tm=frame 0 42 [(2,.c (.v (.bool j76)))]∧m=⟨[],1⟩))∧p3_1 False fu K0 j76) (fun L hL_1=>?_) ?_
 conv=>cbv
 refine br_h hO h (by subst hO;rfl) (fun k14 h=>?_) (fun k14 h=>?_)
 conv=>cbv
 refine br_t hO k14 ?_
 conv=>cbv
 refine br_t hO k14 ?_
 conv=>cbv
 refine z0d hO [.shut,.shut] (d_p10 fu O.len hN h) ?_
 intro e Q a b
 conv=>cbv
 refine⟨by subst a hO;rfl,?_⟩
 intro r bs d
 rw [b] at d
 clear a b h
 obtain⟨y77,_,_,⟨rfl,rfl⟩,h⟩:=d
 conv=>cbv
 refine br_t hO k14 ?_
 conv=>cbv
 exact hL_1 _ _ ⟨y77,⟨(by (conv=>lhs;cbv)<;>(subst hO;rfl)),(by (conv=>lhs;cbv)<;>(subst hO;rfl))⟩,h⟩
 conv=>cbv
 refine br_f hO k14 ?_
 conv=>cbv
 refine br_f hO k14 ?_
 conv=>cbv
 refine br_f hO k14 ?_
 conv=>cbv
 exact hL_1 _ _ ⟨false,⟨(by (conv=>lhs;cbv)<;>(subst hO;rfl)),(by (conv=>lhs;cbv)<;>(subst hO;rfl))⟩,h⟩
 rintro tm m ⟨j76,hs,h⟩
 unfold p3_1 at h
 obtain⟨rfl,rfl⟩:=hs
 conv=>cbv
 rw [b]
 exact⟨j76,_,⟨(by subst hO;rfl),(by subst hO;rfl)⟩,h⟩
end Go.Proofs.Ytioiigabeoaneaa
namespace Go.Proofs.Ytioiigabeoaneaa.V
open Go Go.RowKit Go.ChangeShapes
def w3r (P:Program):Nat→List Field→Nat→Bool
 | o,[],e=>o == e
 | o,f :: fs,e=>f.offset == o && w3r P (o + P.cellsOf f.type) fs e
def w9c (P:Program) (l:List TypeId):Bool:=l.all fun t=>match P.underlying t with
 | some .bool | some (.int _) | some .string=>true
 | some (.slice e)=>l.contains e && decide (0 < P.cellsOf e)
 | some (.struct fs)=>fs.toList.all (fun f=>l.contains f.type) && w3r P 0 fs.toList (P.cellsOf t)
 | _=>false
def ShpL (shp:TypeId→List CV→Prop):List TypeId→List CV→Prop
 | [],ys=>ys=[]
 | t :: ts,ys=>∃ a b,ys=a++b∧shp t a∧ShpL shp ts b
def Shp (P:Program):Nat→TypeId→List CV→Prop
 | 0,_,_=>False
 | n + 1,t,ys=>match P.underlying t with
  | some .bool=>∃ b,ys=[.v (.bool b)]
  | some (.int k)=>∃ z,ys=[.v (.int k z)]∧(Lit.int k z).wf=true
  | some .string=>∃ s:ByteArray,ys=[.v (.string s)]∧s.size≤maxLen
  | some (.slice e)=>∃ es:List (List CV),ys=[.sl (P.cellsOf e) es none]∧es.length≤maxLen∧∀ r ∈ es,Shp P n e r
  | some (.struct fs)=>ShpL (Shp P n) (fs.toList.map (·.type)) ys
  | _=>False
section
variable {H:Type} {enc:TypeId × Value→H} {P:Program} {w:World} {base:Nat} {spare:Nat→Bool} {held:Bool}
def RowR (w:World) (ys:List CV) (cs:List Value):Prop:=ys.length=cs.length∧∀ (i:Nat) y u,ys[i]?=some y→cs[i]?=some u→RelC (allS w) w y u
theorem RowR.append {w:World} {a b:List CV} {c d:List Value} (h:RowR w a c) (k:RowR w b d):RowR w (a++b) (c++d):=by
 refine⟨by simp [h.1,k.1],fun i y u hy hu=>?_⟩
 rw [List.getElem?_append] at hy hu
 rw [h.1] at hy
 split at hy
 ·rename_i hi;rw [if_pos hi] at hu;exact h.2 i y u hy hu
 ·rename_i hi;rw [if_neg hi] at hu;exact k.2 _ y u hy hu
theorem w9f {w:World} {a:Addr} {v:Value} (h:w.cell? a=some v):a.block < w.heap.size∧a.spot=none:=by
 unfold World.cell? at h
 split at h
 ·rename_i hh
  refine⟨(Array.getElem?_eq_some_iff.1 hh).1,?_⟩
  split at h
  ·simp at h
  ·rename_i hs;simpa using hs
 ·simp at h
theorem w0w {n:Nat} (cs:List Value):∀ (fs:List Field) (o:Nat),w3r P o fs cs.length=true →
  (∀ f ∈ fs,∃ ys,RowR w ys ((cs.drop f.offset).take (P.cellsOf f.type))∧Shp P n f.type ys)→∃ ys,RowR w ys (cs.drop o)∧ShpL (Shp P n) (fs.map (·.type)) ys
 | [],o,hc,_=>by
  simp [w3r] at hc
  exact⟨[],⟨by simp [hc],by simp⟩,rfl⟩
 | f :: fs,o,hc,hf=>by
  simp only [w3r,Bool.and_eq_true,beq_iff_eq] at hc
  obtain⟨ho,hc⟩:=hc
  obtain⟨a,ha,sa⟩:=hf f (by simp)
  obtain⟨b,hb,sb⟩:=w0w cs fs _ hc (fun g hg=>hf g (by simp [hg]))
  rw [ho] at ha
  refine⟨a++b,?_,a,b,rfl,sa,sb⟩
  have:=ha.append hb
  rwa [← List.drop_drop,List.take_append_drop] at this
theorem w4c {l:List TypeId} (hl:w9c P l=true):∀ (n:Nat) (t:TypeId) (cs:List Value) (x:DataW H × List MemPlace),t ∈ l→DataW.trod enc P w base spare held n t cs=some x →
  ∃ ys,RowR w ys cs∧Shp P n t ys:=by
 intro n
 induction n with
 | zero=>intro t cs x _ h;simp [DataW.trod] at h
 | succ n ih =>
  intro t cs x ht h
  have hc:=List.all_eq_true.1 hl t ht
  split at hc
  ·rename_i hu
   obtain⟨b,rfl,rfl⟩:=DataW.trod_bool hu h
   refine⟨[.v (.bool b)],⟨rfl,fun i y u hy hu=>?_⟩,?_⟩
   ·match i with
    | 0=>simp at hy hu;subst hy;subst hu;exact .v _ rfl
    | i + 1=>simp at hy
   ·simp [Shp,hu]
  ·rename_i k hu
   obtain⟨z,rfl,rfl,hw⟩:=DataW.trod_int hu h
   refine⟨[.v (.int k z)],⟨rfl,fun i y u hy hu=>?_⟩,?_⟩
   ·match i with
    | 0=>simp at hy hu;subst hy;subst hu;exact .v _ rfl
    | i + 1=>simp at hy
   ·simp [Shp,hu,hw]
  ·rename_i hu
   obtain⟨s,rfl,rfl,hw⟩:=DataW.trod_string hu h
   refine⟨[.v (.string s)],⟨rfl,fun i y u hy hu=>?_⟩,?_⟩
   ·match i with
    | 0=>simp at hy hu;subst hy;subst hu;exact .v _ rfl
    | i + 1=>simp at hy
   ·simp [Shp,hu,hw]
  ·rename_i e hu
   simp only [Bool.and_eq_true,List.contains_iff_mem,decide_eq_true_eq] at hc
   rcases DataW.trod_slice hu h with ⟨rfl,rfl⟩ | ⟨a,len,cap,elems,rest,n',hn,rfl,rfl,hb,hle,hm,hlen,hel,_,_⟩
   ·refine⟨[.sl (P.cellsOf e) [] none],⟨rfl,fun i y u hy hu'=>?_⟩,?_⟩
    ·match i with
     | 0=>simp at hy hu';subst hy;subst hu';exact .sl _ [] none none 0 0 0 (fun _=>.nilIface) (by simp) (by simp) (by simp) (by simp) (by simp) (by simp) (by simp)
     | i + 1=>simp at hy
    ·simp [Shp,hu]
   ·injection hn with hn;subst hn
    have each:∀ i,i < len→∃ r cs',World.cells? w base (a.add (i * P.cellsOf e)) (P.cellsOf e)=some cs'∧RowR w r cs'∧Shp P n e r:=fun i hi=>by
     have h1:=hel i hi
     rw [List.getElem?_eq_getElem (by omega),Option.bind_eq_some_iff] at h1
     obtain⟨cs',hcs,hy⟩:=h1
     obtain⟨r,hr,hs⟩:=ih e cs' _ hc.1 hy
     exact⟨r,cs',hcs,hr,hs⟩
    have hex:∃ g:Nat→List CV,∀ i,i < len→∃ cs',World.cells? w base (a.add (i * P.cellsOf e)) (P.cellsOf e)=some cs'∧RowR w (g i) cs'∧Shp P n e (g i):=by
     refine⟨fun i=>if hi:i < len then (each i hi).choose else [],fun i hi=>?_⟩
     obtain⟨cs',h1⟩:=(each i hi).choose_spec
     refine⟨cs',?_⟩
     simp only [hi,dif_pos]
     exact h1
    obtain⟨g,hg⟩:=hex
    have hget:∀ (i:Nat) r,((List.range len).map g)[i]?=some r→i < len∧r=g i:=fun i r hr=>by
     have hi:i < len:=by have:=(List.getElem?_eq_some_iff.1 hr).1;simpa using this
     refine⟨hi,?_⟩
     simpa [List.getElem?_map,List.getElem?_range hi] using hr.symm
    have hrl:∀ i,i < len→(g i).length=P.cellsOf e:=fun i hi=>by
     obtain⟨cs',h1,h2,_⟩:=hg i hi
     rw [h2.1,(World.cells?_some h1).2.1]
    have hcell:∀ i j,i < len→j < P.cellsOf e→∃ u,w.cell? ((a.add (i * P.cellsOf e)).add j)=some u∧∃ y,(g i)[j]?=some y∧RelC (allS w) w y u:=fun i j hi hj=>by
     obtain⟨cs',h1,h2,_⟩:=hg i hi
     obtain⟨_,h3,h4⟩:=World.cells?_some h1
     obtain⟨y,hy⟩:∃ y,(g i)[j]?=some y:=⟨_,List.getElem?_eq_getElem (by rw [hrl i hi];exact hj)⟩
     obtain⟨v,hv⟩:∃ v,cs'[j]?=some v:=⟨_,List.getElem?_eq_getElem (by rw [h3];exact hj)⟩
     exact⟨_,(h4 j hj).trans hv,_,hy,h2.2 j _ _ hy hv⟩
    have hspot:0 < len→a.spot=none:=fun h0=>by
     obtain⟨u,hu',_⟩:=hcell 0 0 h0 hc.2
     simpa [Addr.add] using (w9f hu').2
    have hadd:0 < len→∀ i j,(a.add (i * P.cellsOf e)).add j=⟨a.block,a.off + (i * P.cellsOf e + j),none⟩:=fun h0 i j=>by
     have hs:=hspot h0
     obtain⟨ab,ao,asp⟩:=a
     simp only at hs;subst hs
     unfold Addr.add
     by_cases h1:i * P.cellsOf e=0<;>by_cases h2:j=0<;>simp [h1,h2]<;>omega
    have hdiv:∀ k,k < len * P.cellsOf e→k / P.cellsOf e < len∧k % P.cellsOf e < P.cellsOf e∧k / P.cellsOf e * P.cellsOf e + k % P.cellsOf e=k:=fun k hk =>
     ⟨(Nat.div_lt_iff_lt_mul hc.2).2 hk,Nat.mod_lt _ hc.2,by rw [Nat.mul_comm];exact Nat.div_add_mod _ _⟩
    have hall:∀ k,k < len * P.cellsOf e→∃ u,z0m w a.block (a.off + k)=some u:=fun k hk=>by
     obtain⟨h1,h2,h3⟩:=hdiv k hk
     obtain⟨u,h4,_⟩:=hcell _ _ h1 h2
     rw [hadd (Nat.lt_of_le_of_lt (Nat.zero_le _) h1),h3] at h4
     exact⟨u,h4⟩
    refine⟨[.sl (P.cellsOf e) ((List.range len).map g) none],⟨rfl,fun i y u hy hu'=>?_⟩,?_⟩
    ·match i with
     | i + 1=>simp at hy
     | 0 =>
      simp only [List.getElem?_cons_zero,Option.some.injEq] at hy hu'
      subst hy;subst hu'
      have hlen':((List.range len).map g).length=len:=by simp
      have hgoal:RelC (allS w) w (.sl (P.cellsOf e) ((List.range len).map g) none) (.slice (some a) ((List.range len).map g).length cap):=by
       refine .sl _ _ none (some a) cap a.block a.off (fun k=>(z0m w a.block (a.off + k)).getD .nilIface) (by rw [hlen'];exact hle) (by simp) ?_ ?_ ?_ ?_ ?_
       ·intro hne
        have h0:0 < len:=by
         cases len with
         | zero=>simp at hne
         | succ _=>omega
        refine⟨?_,hc.2⟩
        have:=hspot h0
        obtain⟨ab,ao,asp⟩:=a
        simp only at this;subst this;rfl
       ·intro i r hr
        simp only [Option.getD_none,List.append_nil] at hr
        obtain⟨hi,rfl⟩:=hget i r hr
        exact hrl i hi
       ·intro k hk
        simp only [Option.getD_none,List.append_nil,hlen'] at hk
        obtain⟨u,hu'⟩:=hall k hk
        exact (w9f hu').1
       ·intro k hk
        simp only [Option.getD_none,List.append_nil,hlen'] at hk
        obtain⟨u,hu'⟩:=hall k hk
        show z0m w a.block (a.off + k)=some ((z0m w a.block (a.off + k)).getD .nilIface)
        rw [hu'];rfl
       ·intro i j r y hr hy
        simp only [Option.getD_none,List.append_nil] at hr
        obtain⟨hi,rfl⟩:=hget i r hr
        have hj:j < P.cellsOf e:=by rw [← hrl i hi];exact (List.getElem?_eq_some_iff.1 hy).1
        obtain⟨u,h4,y',h5,h6⟩:=hcell i j hi hj
        rw [hy] at h5;injection h5 with h5;subst h5
        rw [hadd (by omega)] at h4
        show RelC (allS w) w y ((z0m w a.block (a.off + (i * P.cellsOf e + j))).getD .nilIface)
        rw [show z0m w a.block (a.off + (i * P.cellsOf e + j))=some u from h4]
        exact h6
      rwa [hlen'] at hgoal
    ·simp only [Shp,hu]
     refine⟨_,rfl,by simp;omega,fun r hr=>?_⟩
     obtain⟨i,hi,rfl⟩:=List.mem_map.1 hr
     obtain⟨_,_,_,h5⟩:=hg i (List.mem_range.1 hi)
     exact h5
  ·rename_i fs hu
   simp only [Bool.and_eq_true,List.all_eq_true,List.contains_iff_mem] at hc
   obtain⟨xs,n',hn,rfl,hlen,hxl,hf⟩:=DataW.trod_struct hu h
   injection hn with hn;subst hn
   obtain⟨ys,h1,h2⟩:=w0w (P:=P) (w:=w) (n:=n) cs fs.toList 0 (by rw [hlen];exact hc.2) (fun f hfm=>by
    obtain⟨i,hi⟩:=List.getElem?_of_mem hfm
    have h3:=hf i f (by simpa using hi)
    have hi':i < xs.length:=by rw [hxl];simpa using (List.getElem?_eq_some_iff.1 hi).1
    rw [List.getElem?_eq_getElem hi'] at h3
    exact ih f.type _ _ (hc.1 f hfm) h3)
   refine⟨ys,by simpa using h1,?_⟩
   simp only [Shp,hu]
   exact h2
  ·simp at hc
theorem w9s {l:List TypeId} (hl:w9c P l=true) {t:TypeId} (ht:t ∈ l) {v:Value} {d:DataW H} {ps:List MemPlace} (h:DataW.Trod enc P w base spare held t v d ps) (h1:v.cells=#[v]) :
  ∃ n y,RelC (allS w) w y v∧Shp P n t [y]:=by
 obtain⟨n,h⟩:=h
 rw [h1] at h
 obtain⟨ys,hr,hs⟩:=w4c hl n t _ _ ht h
 have hlen:=hr.1
 match ys,hlen with
 | [y],_=>exact⟨n,y,hr.2 0 y v rfl rfl,hs⟩
end
theorem Ext.below {w w':World} (h:Ext (fun _ _=>False) w w'):Below w.heap.size w w':=⟨h.os,h.tape,h.output,h.size,fun k hk=>h.obj k hk (fun _ q=>q)⟩
end Go.Proofs.Ytioiigabeoaneaa.V
namespace Go.Proofs.Ytioiigabeoaneaa
open Go V
open Go.ChangeShapes Go.WideShapes Go.ChangeAt Go.RowKit
theorem Try.own:ownKnob Try.prog.godebug=none:=by kernel_rfl
theorem Try.laidOut:laidOutB Try.prog=true:=by kernel_rfl
set_option maxRecDepth 100000
theorem u8_of {n:Int} (h:(Lit.int .u8 n).wf=true):0≤n∧n≤255:=by
 have h':(decide (IntKind.u8.min≤n) && decide (n≤IntKind.u8.max))=true:=h
 have h1:IntKind.u8.min=0:=by decide
 have h2:IntKind.u8.max=255:=by decide
 rw [Bool.and_eq_true,h1,h2] at h'
 exact⟨of_decide_eq_true h'.1,of_decide_eq_true h'.2⟩
theorem w6h:∀ (es:List (List CV)),(∀ r ∈ es,∃ z,r=[.v (.int .u8 z)]∧(Lit.int .u8 z).wf=true)→∃ bs:List UInt8,es=encB bs
 | [],_=>⟨[],rfl⟩
 | r :: es,h=>by
  obtain⟨z,hz,hw⟩:=h r (by simp)
  obtain⟨bs,hbs⟩:=w6h es (fun r hr=>h r (by simp [hr]))
  have h1:=u8_of hw
  refine⟨UInt8.ofNat z.toNat :: bs,?_⟩
  rw [hz,hbs,w3n]
  have:(UInt8.ofNat z.toNat).toNat=z.toNat:=by simp;omega
  rw [this,show ((z.toNat:Nat):Int)=z by omega]
section
variable {H:Type} {enc:TypeId × Value→H} {w:World} {base:Nat} {spare:Nat→Bool} {held:Bool}
theorem w4z {t e:TypeId} {v:Value} {r:Reach} (hu:Try.prog.underlying t=some (.slice e)) (hv:Value.okWide Try.prog w r base t v):v.cells=#[v]:=by
 unfold Value.okWide at hv
 rw [hu] at hv
 unfold Cell.okWide at hv
 rw [hu] at hv
 unfold Cell.ok at hv
 rw [hu] at hv
 cases v<;>first | rfl | exact hv.elim
theorem w9h {v:Value} {r:Reach} {d:DataW H} {ps:List MemPlace} {base':Nat} (hv:Value.okWide Try.prog w r base' 22 v) (h:DataW.Trod enc Try.prog w base spare held 22 v d ps) :
  ∃ bs:List UInt8,RelC (allS w) w (.sl 1 (encB bs) none) v∧bs.length≤maxLen:=by
 have hu:Try.prog.underlying 22=some (.slice 5):=by kernel_rfl
 have hu8:Try.prog.underlying 5=some (.int .u8):=by kernel_rfl
 have hc1:Try.prog.cellsOf 5=1:=by kernel_rfl
 obtain⟨n,y,hr,hs⟩:=w9s (l:=[5,22]) (by kernel_rfl) (by simp) h (w4z hu hv)
 cases n with
 | zero=>exact hs.elim
 | succ n =>
  simp only [Shp,hu] at hs
  obtain⟨es,he,hl,hall⟩:=hs
  injection he with he _
  subst he
  obtain⟨bs,rfl⟩:=w6h es (fun r hr=>by
   have:=hall r hr
   cases n with
   | zero=>exact this.elim
   | succ n=>simp only [Shp,hu8] at this;exact this)
  rw [hc1] at hr
  exact⟨bs,hr,by simpa using hl⟩
end
end Go.Proofs.Ytioiigabeoaneaa
