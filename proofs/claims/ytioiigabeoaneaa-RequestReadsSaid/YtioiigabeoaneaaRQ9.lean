/- A part of the proof. Conditions: none. -/
import Derived.Test.YtioiigabeoaneaaRQ8
import Derived.Test.YtioiigabeoaneaaRQ7
import Derived.Test.YtioiigabeoaneaaRQ5
import Derived.Test.YtioiigabeoaneaaRQ4
namespace Go.Proofs.Ytioiigabeoaneaa
open Go V
set_option maxRecDepth 100000
set_option maxHeartbeats 4000000
theorem d_p12 (fu:Nat){K0:Bool→Prop}(L:EL→Nat)(hN:L=List.length){x0 x1 x2 x3 x4 x5 x6 x7 x8 x9 x10:Int}{x11 x12:ByteArray}{x13 x14:Int}{x15:ByteArray}{x16 x17:EL}{x18 x19:Int}{x20:ByteArray}{x21 x22 x23:EL}{x24 x25:Int}{x26:ByteArray}{x27 x28:EL}{x29 x30:Int}{x31:ByteArray}{x32 x33:EL}(h:p12 False fu K0 x0 x1 x2 x3 x4 x5 x6 x7 x8 x9 x10 x11 x12 x13 x14 x15 x16 x17 x18 x19 x20 x21 x22 x23 x24 x25 x26 x27 x28 x29 x30 x31 x32 x33):Den Try.prog G0 12 [.agg [.c (.v (.int .i64 x0)),.c (.v (.int .i64 x1)),.c (.v (.int .i64 x2)),.c (.v (.int .i64 x3)),.c (.v (.int .u64 x4)),.c (.v (.int .u64 x5)),.c (.v (.int .u64 x6)),.c (.v (.int .u64 x7)),.c (.v (.int .i64 x8)),.c (.v (.int .i64 x9)),.c (.v (.int .i64 x10)),.c (.v (.string x11)),.c (.v (.string x12)),.c (.v (.int .i64 x13)),.c (.v (.int .i64 x14)),.c (.v (.string x15)),.c (.sl 3 x16 none),.c (.sl 5 x17 none),.c (.v (.int .i64 x18)),.c (.v (.int .i64 x19)),.c (.v (.string x20)),.c (.sl 3 x21 none),.c (.sl 5 x22 none),.c (.sl 6 x23 none),.c (.v (.int .i64 x24)),.c (.v (.int .i64 x25)),.c (.v (.string x26)),.c (.sl 3 x27 none),.c (.sl 5 x28 none),.c (.v (.int .i64 x29)),.c (.v (.int .i64 x30)),.c (.v (.string x31)),.c (.sl 3 x32 none),.c (.sl 5 x33 none)]] (fun r bs=>(∃ (y0:Bool) (o0:OV),(r=.c (.v (.bool y0))∧bs=[o0])∧K0 y0)):=by
 obtain⟨O,hO⟩:∃ O,O=std 0 T G0 (Den Try.prog G0):=⟨_,rfl⟩
 have hLO:L=O.len:=by rw [hN,hO];rfl
 subst hLO
 refine den_h hO tiA mixed tabOk (fn:=Try.f12) (sh:=true) (by kernel_rfl) rfl rfl rfl rfl ?_
 intro Q b
 unfold p12 at h
 conv=>cbv
 refine z0d hO [.shut] (d_p14 fu O.len hN h) ?_
 intro e Q a b
 conv=>cbv
 refine⟨by subst a hO;rfl,?_⟩
 intro r bs d
 rw [b] at d
 clear a b h
 obtain⟨y1,y2,y3,y4,y5,y6,y7,y8,y9,_,⟨rfl,rfl⟩,h⟩:=d
 conv=>cbv
 refine br_h hO h (by subst hO;rfl) (fun k1 h=>?_) (fun k1 h=>?_)
 conv=>cbv
 rw [b]
 exact⟨false,_,⟨(by subst hO;rfl),(by subst hO;rfl)⟩,h⟩
 conv=>cbv
 refine z0g hO tiA [1,3,5,16] [2000,4000,6000] [] (fun tm m=>∃ (j10:Bool),((tm=frame 0 144 [(1,.p 2000 0 0),(3,.p 4000 0 0),(5,.p 6000 0 0),(16,.c (.v (.bool j10)))]∧m=⟨[(2000,.blk 0 [.c (.v (.int .i64 x0)),.c (.v (.int .i64 x1)),.c (.v (.int .i64 x2)),.c (.v (.int .i64 x3)),.c (.v (.int .u64 x4)),.c (.v (.int .u64 x5)),.c (.v (.int .u64 x6)),.c (.v (.int .u64 x7)),.c (.v (.int .i64 x8)),.c (.v (.int .i64 x9)),.c (.v (.int .i64 x10)),.c (.v (.string x11)),.c (.v (.string x12)),.c (.v (.int .i64 x13)),.c (.v (.int .i64 x14)),.c (.v (.string x15)),.c (.sl 3 x16 none),.c (.sl 5 x17 none),.c (.v (.int .i64 x18)),.c (.v (.int .i64 x19)),.c (.v (.string x20)),.c (.sl 3 x21 none),.c (.sl 5 x22 none),.c (.sl 6 x23 none),.c (.v (.int .i64 x24)),.c (.v (.int .i64 x25)),.c (.v (.string x26)),.c (.sl 3 x27 none),.c (.sl 5 x28 none),.c (.v (.int .i64 x29)),.c (.v (.int .i64 x30)),.c (.v (.string x31)),.c (.sl 3 x32 none),.c (.sl 5 x33 none)]),(4000,.blk 0 [.c (.v (.bool y1)),.c (.v (.bool y2)),.c (.v (.bool y3)),.c (.v (.bool y4)),.c (.v (.bool y5)),.c (.v (.bool y6)),.c (.v (.bool y7)),.c (.v (.bool y8))]),(6000,.blk 0 [.c (.v (.int .u64 0)),.c (.v (.int .u64 0))])],1⟩))∧p12_17 False fu K0 x1 x2 x3 x4 x5 x6 x7 x8 x9 x10 x11 x12 x13 x14 x15 x16 x17 x18 x19 x20 x21 x22 x23 x24 x25 x26 x27 x28 x29 x30 x31 x32 x33 y1 y2 y3 y4 y5 y6 y7 y8 j10) (fun L hL_17=>?_) ?_
 conv=>cbv
 refine br_h hO h (by subst hO;rfl) (fun k26 h=>?_) (fun k26 h=>?_)
 conv=>cbv
 refine br_t hO k26 ?_
 conv=>cbv
 refine br_t hO k26 ?_
 conv=>cbv
 refine z0d hO [.shut] (d_p36 fu O.len hN h) ?_
 intro e Q a b
 conv=>cbv
 refine⟨by subst a hO;rfl,?_⟩
 intro r bs d
 rw [b] at d
 clear a b h
 obtain⟨y35,_,⟨rfl,rfl⟩,h⟩:=d
 conv=>cbv
 refine br_t hO k26 ?_
 conv=>cbv
 refine br_t hO k26 ?_
 conv=>cbv
 refine br_h hO h (by subst hO;rfl) (fun k27 h=>?_) (fun k27 h=>?_)
 conv=>cbv
 refine br_t hO k27 ?_
 conv=>cbv
 refine br_t hO k27 ?_
 conv=>cbv
 refine br_t hO k27 ?_
 conv=>cbv
 refine br_t hO k26 ?_
 conv=>cbv
 refine br_t hO k27 ?_
 conv=>cbv
 refine br_t hO k26 ?_
 conv=>cbv
 exact hL_17 _ _ ⟨true,⟨(by (conv=>lhs;cbv)<;>(subst hO;rfl)),(by (conv=>lhs;cbv)<;>(subst hO;rfl))⟩,h⟩
 conv=>cbv
 refine br_f hO k27 ?_
 conv=>cbv
 refine br_f hO k27 ?_
 conv=>cbv
 refine z0d hO [.shut] (d_p36 fu O.len hN h) ?_
 intro e Q a b
 conv=>cbv
 refine⟨by subst a hO;rfl,?_⟩
 intro r bs d
 rw [b] at d
 clear a b h
 obtain⟨y36,_,⟨rfl,rfl⟩,h⟩:=d
 conv=>cbv
 refine br_f hO k27 ?_
 conv=>cbv
 refine br_t hO k26 ?_
 conv=>cbv
 refine br_f hO k27 ?_
 conv=>cbv
 refine br_t hO k26 ?_
 conv=>cbv
 exact hL_17 _ _ ⟨(!y36),⟨(by (conv=>lhs;cbv)<;>(subst hO;rfl)),(by (conv=>lhs;cbv)<;>(subst hO;rfl))⟩,h⟩
 conv=>cbv
 refine br_f hO k26 ?_
 conv=>cbv
 refine br_f hO k26 ?_
 conv=>cbv
 refine br_f hO k26 ?_
 conv=>cbv
 refine br_f hO k26 ?_
 conv=>cbv
 refine br_f hO k26 ?_
 conv=>cbv
 refine br_f hO k26 ?_
 conv=>cbv
 exact hL_17 _ _ ⟨false,⟨(by (conv=>lhs;cbv)<;>(subst hO;rfl)),(by (conv=>lhs;cbv)<;>(subst hO;rfl))⟩,h⟩
 rintro tm m ⟨j10,hs,h⟩
 unfold p12_17 at h
 obtain⟨rfl,rfl⟩:=hs
 conv=>cbv
 refine z0e hO tiA h (by subst hO;rfl) [1,3,5,16] [2000,4000,6000] [] (fun tm m=>∃ (j11:Bool),((tm=frame 0 144 [(1,.p 2000 0 0),(3,.p 4000 0 0),(5,.p 6000 0 0),(16,.c (.v (.bool j11)))]∧m=⟨[(2000,.blk 0 [.c (.v (.int .i64 x0)),.c (.v (.int .i64 x1)),.c (.v (.int .i64 x2)),.c (.v (.int .i64 x3)),.c (.v (.int .u64 x4)),.c (.v (.int .u64 x5)),.c (.v (.int .u64 x6)),.c (.v (.int .u64 x7)),.c (.v (.int .i64 x8)),.c (.v (.int .i64 x9)),.c (.v (.int .i64 x10)),.c (.v (.string x11)),.c (.v (.string x12)),.c (.v (.int .i64 x13)),.c (.v (.int .i64 x14)),.c (.v (.string x15)),.c (.sl 3 x16 none),.c (.sl 5 x17 none),.c (.v (.int .i64 x18)),.c (.v (.int .i64 x19)),.c (.v (.string x20)),.c (.sl 3 x21 none),.c (.sl 5 x22 none),.c (.sl 6 x23 none),.c (.v (.int .i64 x24)),.c (.v (.int .i64 x25)),.c (.v (.string x26)),.c (.sl 3 x27 none),.c (.sl 5 x28 none),.c (.v (.int .i64 x29)),.c (.v (.int .i64 x30)),.c (.v (.string x31)),.c (.sl 3 x32 none),.c (.sl 5 x33 none)]),(4000,.blk 0 [.c (.v (.bool y1)),.c (.v (.bool y2)),.c (.v (.bool y3)),.c (.v (.bool y4)),.c (.v (.bool y5)),.c (.v (.bool y6)),.c (.v (.bool y7)),.c (.v (.bool y8))]),(6000,.blk 0 [.c (.v (.int .u64 0)),.c (.v (.int .u64 0))])],1⟩))∧p12_15 False fu K0 x1 x4 x5 x6 x7 x8 x9 x10 x11 x12 x13 x14 x15 x16 x17 x18 x19 x20 x21 x22 x23 x24 x25 x26 x27 x28 x29 x30 x31 x32 x33 y2 y3 y4 y5 y6 y7 y8 j11) (fun k23 h L hL_15=>?_) (fun k23 h L hL_15=>?_) ?_
 conv=>cbv
 exact hL_15 _ _ ⟨j10,⟨(by (conv=>lhs;cbv)<;>(subst hO;rfl)),(by (conv=>lhs;cbv)<;>(subst hO;rfl))⟩,h⟩
 conv=>cbv
 refine z0g hO tiA [1,3,5,16] [2000,4000,6000] [] (fun tm m=>∃ (j34:Bool),((tm=frame 0 144 [(1,.p 2000 0 0),(3,.p 4000 0 0),(5,.p 6000 0 0),(16,.c (.v (.bool j34)))]∧m=⟨[(2000,.blk 0 [.c (.v (.int .i64 x0)),.c (.v (.int .i64 x1)),.c (.v (.int .i64 x2)),.c (.v (.int .i64 x3)),.c (.v (.int .u64 x4)),.c (.v (.int .u64 x5)),.c (.v (.int .u64 x6)),.c (.v (.int .u64 x7)),.c (.v (.int .i64 x8)),.c (.v (.int .i64 x9)),.c (.v (.int .i64 x10)),.c (.v (.string x11)),.c (.v (.string x12)),.c (.v (.int .i64 x13)),.c (.v (.int .i64 x14)),.c (.v (.string x15)),.c (.sl 3 x16 none),.c (.sl 5 x17 none),.c (.v (.int .i64 x18)),.c (.v (.int .i64 x19)),.c (.v (.string x20)),.c (.sl 3 x21 none),.c (.sl 5 x22 none),.c (.sl 6 x23 none),.c (.v (.int .i64 x24)),.c (.v (.int .i64 x25)),.c (.v (.string x26)),.c (.sl 3 x27 none),.c (.sl 5 x28 none),.c (.v (.int .i64 x29)),.c (.v (.int .i64 x30)),.c (.v (.string x31)),.c (.sl 3 x32 none),.c (.sl 5 x33 none)]),(4000,.blk 0 [.c (.v (.bool y1)),.c (.v (.bool y2)),.c (.v (.bool y3)),.c (.v (.bool y4)),.c (.v (.bool y5)),.c (.v (.bool y6)),.c (.v (.bool y7)),.c (.v (.bool y8))]),(6000,.blk 0 [.c (.v (.int .u64 0)),.c (.v (.int .u64 0))])],1⟩))∧p12_16 False fu K0 x1 x4 x5 x6 x7 x8 x9 x10 x11 x12 x13 x14 x15 x16 x17 x18 x19 x20 x21 x22 x23 x24 x25 x26 x27 x28 x29 x30 x31 x32 x33 y2 y3 y4 y5 y6 y7 y8 j34) (fun L hL_16=>?_) ?_
 conv=>cbv
 refine br_h hO h (by subst hO;rfl) (fun k24 h=>?_) (fun k24 h=>?_)
 conv=>cbv
 refine br_t hO k24 ?_
 conv=>cbv
 refine br_t hO k24 ?_
 conv=>cbv
 refine br_t hO k24 ?_
 conv=>cbv
 refine br_h hO h (by subst hO;rfl) (fun k25 h=>?_) (fun k25 h=>?_)
 conv=>cbv
 refine br_t hO k25 ?_
 conv=>cbv
 refine br_t hO k25 ?_
 conv=>cbv
 refine br_t hO k24 ?_
 conv=>cbv
 refine br_t hO k25 ?_
 conv=>cbv
 refine br_t hO k24 ?_
 conv=>cbv
 exact hL_16 _ _ ⟨true,⟨(by (conv=>lhs;cbv)<;>(subst hO;rfl)),(by (conv=>lhs;cbv)<;>(subst hO;rfl))⟩,h⟩
 conv=>cbv
 refine br_f hO k25 ?_
 conv=>cbv
 refine br_f hO k25 ?_
 conv=>cbv
 refine br_t hO k24 ?_
 conv=>cbv
 refine br_f hO k25 ?_
 conv=>cbv
 refine br_t hO k24 ?_
 conv=>cbv
 exact hL_16 _ _ ⟨(z0a .neq x3 0),⟨(by (conv=>lhs;cbv)<;>(subst hO;rfl)),(by (conv=>lhs;cbv)<;>(subst hO;rfl))⟩,h⟩
 conv=>cbv
 refine br_f hO k24 ?_
 conv=>cbv
 refine br_f hO k24 ?_
 conv=>cbv
 refine br_f hO k24 ?_
 conv=>cbv
 refine br_f hO k24 ?_
 conv=>cbv
 refine br_f hO k24 ?_
 conv=>cbv
 exact hL_16 _ _ ⟨false,⟨(by (conv=>lhs;cbv)<;>(subst hO;rfl)),(by (conv=>lhs;cbv)<;>(subst hO;rfl))⟩,h⟩
 rintro tm m ⟨j34,hs,h⟩
 unfold p12_16 at h
 obtain⟨rfl,rfl⟩:=hs
 conv=>cbv
 exact hL_15 _ _ ⟨j34,⟨(by (conv=>lhs;cbv)<;>(subst hO;rfl)),(by (conv=>lhs;cbv)<;>(subst hO;rfl))⟩,h⟩
 rintro tm m ⟨j11,hs,h⟩
 unfold p12_15 at h
 obtain⟨rfl,rfl⟩:=hs
 conv=>cbv
 refine br_h hO h (by subst hO;rfl) (fun k2 h=>?_) (fun k2 h=>?_)
 conv=>cbv
 rw [b]
 exact⟨false,_,⟨(by subst hO;rfl),(by subst hO;rfl)⟩,h⟩
 conv=>cbv
 refine z0g hO tiA [1,3,5,44] [2000,4000,6000] [] (fun tm m=>∃ (j12:Bool),((tm=frame 0 144 [(1,.p 2000 0 0),(3,.p 4000 0 0),(5,.p 6000 0 0),(44,.c (.v (.bool j12)))]∧m=⟨[(2000,.blk 0 [.c (.v (.int .i64 x0)),.c (.v (.int .i64 x1)),.c (.v (.int .i64 x2)),.c (.v (.int .i64 x3)),.c (.v (.int .u64 x4)),.c (.v (.int .u64 x5)),.c (.v (.int .u64 x6)),.c (.v (.int .u64 x7)),.c (.v (.int .i64 x8)),.c (.v (.int .i64 x9)),.c (.v (.int .i64 x10)),.c (.v (.string x11)),.c (.v (.string x12)),.c (.v (.int .i64 x13)),.c (.v (.int .i64 x14)),.c (.v (.string x15)),.c (.sl 3 x16 none),.c (.sl 5 x17 none),.c (.v (.int .i64 x18)),.c (.v (.int .i64 x19)),.c (.v (.string x20)),.c (.sl 3 x21 none),.c (.sl 5 x22 none),.c (.sl 6 x23 none),.c (.v (.int .i64 x24)),.c (.v (.int .i64 x25)),.c (.v (.string x26)),.c (.sl 3 x27 none),.c (.sl 5 x28 none),.c (.v (.int .i64 x29)),.c (.v (.int .i64 x30)),.c (.v (.string x31)),.c (.sl 3 x32 none),.c (.sl 5 x33 none)]),(4000,.blk 0 [.c (.v (.bool y1)),.c (.v (.bool y2)),.c (.v (.bool y3)),.c (.v (.bool y4)),.c (.v (.bool y5)),.c (.v (.bool y6)),.c (.v (.bool y7)),.c (.v (.bool y8))]),(6000,.blk 0 [.c (.v (.int .u64 0)),.c (.v (.int .u64 0))])],1⟩))∧p12_14 False fu K0 x1 x6 x7 x8 x9 x10 x11 x12 x13 x14 x15 x16 x17 x18 x19 x20 x21 x22 x23 x24 x25 x26 x27 x28 x29 x30 x31 x32 x33 y3 y4 y5 y6 y7 y8 j12) (fun L hL_14=>?_) ?_
 conv=>cbv
 refine br_h hO h (by subst hO;rfl) (fun k22 h=>?_) (fun k22 h=>?_)
 conv=>cbv
 refine br_t hO k22 ?_
 conv=>cbv
 refine br_t hO k22 ?_
 conv=>cbv
 refine br_t hO k22 ?_
 conv=>cbv
 refine br_t hO k22 ?_
 conv=>cbv
 exact hL_14 _ _ ⟨(!((z0a .eql x4 0) && ((z0a .eql x5 0) && true))),⟨(by (conv=>lhs;cbv)<;>(subst hO;rfl)),(by (conv=>lhs;cbv)<;>(subst hO;rfl))⟩,h⟩
 conv=>cbv
 refine br_f hO k22 ?_
 conv=>cbv
 refine br_f hO k22 ?_
 conv=>cbv
 refine br_f hO k22 ?_
 conv=>cbv
 refine br_f hO k22 ?_
 conv=>cbv
 exact hL_14 _ _ ⟨false,⟨(by (conv=>lhs;cbv)<;>(subst hO;rfl)),(by (conv=>lhs;cbv)<;>(subst hO;rfl))⟩,h⟩
 rintro tm m ⟨j12,hs,h⟩
 unfold p12_14 at h
 obtain⟨rfl,rfl⟩:=hs
 conv=>cbv
 refine z0e hO tiA h (by subst hO;rfl) [1,3,44] [2000,4000] [] (fun tm m=>∃ (j13:Bool),((tm=frame 0 144 [(1,.p 2000 0 0),(3,.p 4000 0 0),(44,.c (.v (.bool j13)))]∧m=⟨[(2000,.blk 0 [.c (.v (.int .i64 x0)),.c (.v (.int .i64 x1)),.c (.v (.int .i64 x2)),.c (.v (.int .i64 x3)),.c (.v (.int .u64 x4)),.c (.v (.int .u64 x5)),.c (.v (.int .u64 x6)),.c (.v (.int .u64 x7)),.c (.v (.int .i64 x8)),.c (.v (.int .i64 x9)),.c (.v (.int .i64 x10)),.c (.v (.string x11)),.c (.v (.string x12)),.c (.v (.int .i64 x13)),.c (.v (.int .i64 x14)),.c (.v (.string x15)),.c (.sl 3 x16 none),.c (.sl 5 x17 none),.c (.v (.int .i64 x18)),.c (.v (.int .i64 x19)),.c (.v (.string x20)),.c (.sl 3 x21 none),.c (.sl 5 x22 none),.c (.sl 6 x23 none),.c (.v (.int .i64 x24)),.c (.v (.int .i64 x25)),.c (.v (.string x26)),.c (.sl 3 x27 none),.c (.sl 5 x28 none),.c (.v (.int .i64 x29)),.c (.v (.int .i64 x30)),.c (.v (.string x31)),.c (.sl 3 x32 none),.c (.sl 5 x33 none)]),(4000,.blk 0 [.c (.v (.bool y1)),.c (.v (.bool y2)),.c (.v (.bool y3)),.c (.v (.bool y4)),.c (.v (.bool y5)),.c (.v (.bool y6)),.c (.v (.bool y7)),.c (.v (.bool y8))])],1⟩))∧p12_12 False fu K0 x1 x8 x9 x10 x11 x12 x13 x14 x15 x16 x17 x18 x19 x20 x21 x22 x23 x24 x25 x26 x27 x28 x29 x30 x31 x32 x33 y4 y5 y6 y7 y8 j13) (fun k20 h L hL_12=>?_) (fun k20 h L hL_12=>?_) ?_
 conv=>cbv
 exact hL_12 _ _ ⟨j12,⟨(by (conv=>lhs;cbv)<;>(subst hO;rfl)),(by (conv=>lhs;cbv)<;>(subst hO;rfl))⟩,h⟩
 conv=>cbv
 refine z0g hO tiA [1,3,44] [2000,4000] [] (fun tm m=>∃ (j33:Bool),((tm=frame 0 144 [(1,.p 2000 0 0),(3,.p 4000 0 0),(44,.c (.v (.bool j33)))]∧m=⟨[(2000,.blk 0 [.c (.v (.int .i64 x0)),.c (.v (.int .i64 x1)),.c (.v (.int .i64 x2)),.c (.v (.int .i64 x3)),.c (.v (.int .u64 x4)),.c (.v (.int .u64 x5)),.c (.v (.int .u64 x6)),.c (.v (.int .u64 x7)),.c (.v (.int .i64 x8)),.c (.v (.int .i64 x9)),.c (.v (.int .i64 x10)),.c (.v (.string x11)),.c (.v (.string x12)),.c (.v (.int .i64 x13)),.c (.v (.int .i64 x14)),.c (.v (.string x15)),.c (.sl 3 x16 none),.c (.sl 5 x17 none),.c (.v (.int .i64 x18)),.c (.v (.int .i64 x19)),.c (.v (.string x20)),.c (.sl 3 x21 none),.c (.sl 5 x22 none),.c (.sl 6 x23 none),.c (.v (.int .i64 x24)),.c (.v (.int .i64 x25)),.c (.v (.string x26)),.c (.sl 3 x27 none),.c (.sl 5 x28 none),.c (.v (.int .i64 x29)),.c (.v (.int .i64 x30)),.c (.v (.string x31)),.c (.sl 3 x32 none),.c (.sl 5 x33 none)]),(4000,.blk 0 [.c (.v (.bool y1)),.c (.v (.bool y2)),.c (.v (.bool y3)),.c (.v (.bool y4)),.c (.v (.bool y5)),.c (.v (.bool y6)),.c (.v (.bool y7)),.c (.v (.bool y8))])],1⟩))∧p12_13 False fu K0 x1 x8 x9 x10 x11 x12 x13 x14 x15 x16 x17 x18 x19 x20 x21 x22 x23 x24 x25 x26 x27 x28 x29 x30 x31 x32 x33 y4 y5 y6 y7 y8 j33) (fun L hL_13=>?_) ?_
 conv=>cbv
 refine br_h hO h (by subst hO;rfl) (fun k21 h=>?_) (fun k21 h=>?_)
 conv=>cbv
 refine br_t hO k21 ?_
 conv=>cbv
 refine br_t hO k21 ?_
 conv=>cbv
 refine br_t hO k21 ?_
 conv=>cbv
 refine br_t hO k21 ?_
 conv=>cbv
 exact hL_13 _ _ ⟨(!((z0a .eql x6 0) && ((z0a .eql x7 0) && true))),⟨(by (conv=>lhs;cbv)<;>(subst hO;rfl)),(by (conv=>lhs;cbv)<;>(subst hO;rfl))⟩,h⟩
 conv=>cbv
 refine br_f hO k21 ?_
 conv=>cbv
 refine br_f hO k21 ?_
 conv=>cbv
 refine br_f hO k21 ?_
 conv=>cbv
 refine br_f hO k21 ?_
 conv=>cbv
 exact hL_13 _ _ ⟨false,⟨(by (conv=>lhs;cbv)<;>(subst hO;rfl)),(by (conv=>lhs;cbv)<;>(subst hO;rfl))⟩,h⟩
 rintro tm m ⟨j33,hs,h⟩
 unfold p12_13 at h
 obtain⟨rfl,rfl⟩:=hs
 conv=>cbv
 exact hL_12 _ _ ⟨j33,⟨(by (conv=>lhs;cbv)<;>(subst hO;rfl)),(by (conv=>lhs;cbv)<;>(subst hO;rfl))⟩,h⟩
 rintro tm m ⟨j13,hs,h⟩
 unfold p12_12 at h
 obtain⟨rfl,rfl⟩:=hs
 conv=>cbv
 refine br_h hO h (by subst hO;rfl) (fun k3 h=>?_) (fun k3 h=>?_)
 conv=>cbv
 rw [b]
 exact⟨false,_,⟨(by subst hO;rfl),(by subst hO;rfl)⟩,h⟩
 conv=>cbv
 refine z0g hO tiA [1,3,63] [2000,4000] [] (fun tm m=>∃ (j14:Bool),((tm=frame 0 144 [(1,.p 2000 0 0),(3,.p 4000 0 0),(63,.c (.v (.bool j14)))]∧m=⟨[(2000,.blk 0 [.c (.v (.int .i64 x0)),.c (.v (.int .i64 x1)),.c (.v (.int .i64 x2)),.c (.v (.int .i64 x3)),.c (.v (.int .u64 x4)),.c (.v (.int .u64 x5)),.c (.v (.int .u64 x6)),.c (.v (.int .u64 x7)),.c (.v (.int .i64 x8)),.c (.v (.int .i64 x9)),.c (.v (.int .i64 x10)),.c (.v (.string x11)),.c (.v (.string x12)),.c (.v (.int .i64 x13)),.c (.v (.int .i64 x14)),.c (.v (.string x15)),.c (.sl 3 x16 none),.c (.sl 5 x17 none),.c (.v (.int .i64 x18)),.c (.v (.int .i64 x19)),.c (.v (.string x20)),.c (.sl 3 x21 none),.c (.sl 5 x22 none),.c (.sl 6 x23 none),.c (.v (.int .i64 x24)),.c (.v (.int .i64 x25)),.c (.v (.string x26)),.c (.sl 3 x27 none),.c (.sl 5 x28 none),.c (.v (.int .i64 x29)),.c (.v (.int .i64 x30)),.c (.v (.string x31)),.c (.sl 3 x32 none),.c (.sl 5 x33 none)]),(4000,.blk 0 [.c (.v (.bool y1)),.c (.v (.bool y2)),.c (.v (.bool y3)),.c (.v (.bool y4)),.c (.v (.bool y5)),.c (.v (.bool y6)),.c (.v (.bool y7)),.c (.v (.bool y8))])],1⟩))∧p12_11 False fu K0 x1 x8 x9 x10 x11 x12 x13 x14 x15 x16 x17 x18 x19 x20 x21 x22 x23 x24 x25 x26 x27 x28 x29 x30 x31 x32 x33 y4 y5 y6 y7 y8 j14) (fun L hL_11=>?_) ?_
 conv=>cbv
 refine br_h hO h (by subst hO;rfl) (fun k19 h=>?_) (fun k19 h=>?_)
 conv=>cbv
 refine br_t hO k19 ?_
 conv=>cbv
 refine br_t hO k19 ?_
 conv=>cbv
 refine z0d hO [.shut] (d_p36 fu O.len hN h) ?_
 intro e Q a b
 conv=>cbv
 refine⟨by subst a hO;rfl,?_⟩
 intro r bs d
 rw [b] at d
 clear a b h
 obtain⟨y32,_,⟨rfl,rfl⟩,h⟩:=d
 conv=>cbv
 refine br_t hO k19 ?_
 conv=>cbv
 refine br_t hO k19 ?_
 conv=>cbv
 exact hL_11 _ _ ⟨(!y32),⟨(by (conv=>lhs;cbv)<;>(subst hO;rfl)),(by (conv=>lhs;cbv)<;>(subst hO;rfl))⟩,h⟩
 conv=>cbv
 refine br_f hO k19 ?_
 conv=>cbv
 refine br_f hO k19 ?_
 conv=>cbv
 refine br_f hO k19 ?_
 conv=>cbv
 refine br_f hO k19 ?_
 conv=>cbv
 exact hL_11 _ _ ⟨false,⟨(by (conv=>lhs;cbv)<;>(subst hO;rfl)),(by (conv=>lhs;cbv)<;>(subst hO;rfl))⟩,h⟩
 rintro tm m ⟨j14,hs,h⟩
 unfold p12_11 at h
 obtain⟨rfl,rfl⟩:=hs
 conv=>cbv
 refine z0e hO tiA h (by subst hO;rfl) [1,3,63] [2000,4000] [] (fun tm m=>∃ (j15:Bool),((tm=frame 0 144 [(1,.p 2000 0 0),(3,.p 4000 0 0),(63,.c (.v (.bool j15)))]∧m=⟨[(2000,.blk 0 [.c (.v (.int .i64 x0)),.c (.v (.int .i64 x1)),.c (.v (.int .i64 x2)),.c (.v (.int .i64 x3)),.c (.v (.int .u64 x4)),.c (.v (.int .u64 x5)),.c (.v (.int .u64 x6)),.c (.v (.int .u64 x7)),.c (.v (.int .i64 x8)),.c (.v (.int .i64 x9)),.c (.v (.int .i64 x10)),.c (.v (.string x11)),.c (.v (.string x12)),.c (.v (.int .i64 x13)),.c (.v (.int .i64 x14)),.c (.v (.string x15)),.c (.sl 3 x16 none),.c (.sl 5 x17 none),.c (.v (.int .i64 x18)),.c (.v (.int .i64 x19)),.c (.v (.string x20)),.c (.sl 3 x21 none),.c (.sl 5 x22 none),.c (.sl 6 x23 none),.c (.v (.int .i64 x24)),.c (.v (.int .i64 x25)),.c (.v (.string x26)),.c (.sl 3 x27 none),.c (.sl 5 x28 none),.c (.v (.int .i64 x29)),.c (.v (.int .i64 x30)),.c (.v (.string x31)),.c (.sl 3 x32 none),.c (.sl 5 x33 none)]),(4000,.blk 0 [.c (.v (.bool y1)),.c (.v (.bool y2)),.c (.v (.bool y3)),.c (.v (.bool y4)),.c (.v (.bool y5)),.c (.v (.bool y6)),.c (.v (.bool y7)),.c (.v (.bool y8))])],1⟩))∧p12_9 False fu K0 x8 x9 x10 x11 x12 x13 x14 x15 x16 x17 x18 x19 x20 x21 x22 x23 x24 x25 x26 x27 x28 x29 x30 x31 x32 x33 y4 y6 y7 y8 j15) (fun k17 h L hL_9=>?_) (fun k17 h L hL_9=>?_) ?_
 conv=>cbv
 exact hL_9 _ _ ⟨j14,⟨(by (conv=>lhs;cbv)<;>(subst hO;rfl)),(by (conv=>lhs;cbv)<;>(subst hO;rfl))⟩,h⟩
 conv=>cbv
 refine z0g hO tiA [1,3,63] [2000,4000] [] (fun tm m=>∃ (j31:Bool),((tm=frame 0 144 [(1,.p 2000 0 0),(3,.p 4000 0 0),(63,.c (.v (.bool j31)))]∧m=⟨[(2000,.blk 0 [.c (.v (.int .i64 x0)),.c (.v (.int .i64 x1)),.c (.v (.int .i64 x2)),.c (.v (.int .i64 x3)),.c (.v (.int .u64 x4)),.c (.v (.int .u64 x5)),.c (.v (.int .u64 x6)),.c (.v (.int .u64 x7)),.c (.v (.int .i64 x8)),.c (.v (.int .i64 x9)),.c (.v (.int .i64 x10)),.c (.v (.string x11)),.c (.v (.string x12)),.c (.v (.int .i64 x13)),.c (.v (.int .i64 x14)),.c (.v (.string x15)),.c (.sl 3 x16 none),.c (.sl 5 x17 none),.c (.v (.int .i64 x18)),.c (.v (.int .i64 x19)),.c (.v (.string x20)),.c (.sl 3 x21 none),.c (.sl 5 x22 none),.c (.sl 6 x23 none),.c (.v (.int .i64 x24)),.c (.v (.int .i64 x25)),.c (.v (.string x26)),.c (.sl 3 x27 none),.c (.sl 5 x28 none),.c (.v (.int .i64 x29)),.c (.v (.int .i64 x30)),.c (.v (.string x31)),.c (.sl 3 x32 none),.c (.sl 5 x33 none)]),(4000,.blk 0 [.c (.v (.bool y1)),.c (.v (.bool y2)),.c (.v (.bool y3)),.c (.v (.bool y4)),.c (.v (.bool y5)),.c (.v (.bool y6)),.c (.v (.bool y7)),.c (.v (.bool y8))])],1⟩))∧p12_10 False fu K0 x8 x9 x10 x11 x12 x13 x14 x15 x16 x17 x18 x19 x20 x21 x22 x23 x24 x25 x26 x27 x28 x29 x30 x31 x32 x33 y4 y6 y7 y8 j31) (fun L hL_10=>?_) ?_
 conv=>cbv
 refine br_h hO h (by subst hO;rfl) (fun k18 h=>?_) (fun k18 h=>?_)
 conv=>cbv
 refine br_t hO k18 ?_
 conv=>cbv
 refine br_t hO k18 ?_
 conv=>cbv
 refine br_t hO k18 ?_
 conv=>cbv
 exact hL_10 _ _ ⟨(z0a .neq x1 0),⟨(by (conv=>lhs;cbv)<;>(subst hO;rfl)),(by (conv=>lhs;cbv)<;>(subst hO;rfl))⟩,h⟩
 conv=>cbv
 refine br_f hO k18 ?_
 conv=>cbv
 refine br_f hO k18 ?_
 conv=>cbv
 refine br_f hO k18 ?_
 conv=>cbv
 exact hL_10 _ _ ⟨false,⟨(by (conv=>lhs;cbv)<;>(subst hO;rfl)),(by (conv=>lhs;cbv)<;>(subst hO;rfl))⟩,h⟩
 rintro tm m ⟨j31,hs,h⟩
 unfold p12_10 at h
 obtain⟨rfl,rfl⟩:=hs
 conv=>cbv
 exact hL_9 _ _ ⟨j31,⟨(by (conv=>lhs;cbv)<;>(subst hO;rfl)),(by (conv=>lhs;cbv)<;>(subst hO;rfl))⟩,h⟩
 rintro tm m ⟨j15,hs,h⟩
 unfold p12_9 at h
 obtain⟨rfl,rfl⟩:=hs
 conv=>cbv
 refine br_h hO h (by subst hO;rfl) (fun k4 h=>?_) (fun k4 h=>?_)
 conv=>cbv
 rw [b]
 exact⟨false,_,⟨(by subst hO;rfl),(by subst hO;rfl)⟩,h⟩
 conv=>cbv
 refine z0g hO tiA [1,3,80] [2000,4000] [] (fun tm m=>∃ (j16:Bool),((tm=frame 0 144 [(1,.p 2000 0 0),(3,.p 4000 0 0),(80,.c (.v (.bool j16)))]∧m=⟨[(2000,.blk 0 [.c (.v (.int .i64 x0)),.c (.v (.int .i64 x1)),.c (.v (.int .i64 x2)),.c (.v (.int .i64 x3)),.c (.v (.int .u64 x4)),.c (.v (.int .u64 x5)),.c (.v (.int .u64 x6)),.c (.v (.int .u64 x7)),.c (.v (.int .i64 x8)),.c (.v (.int .i64 x9)),.c (.v (.int .i64 x10)),.c (.v (.string x11)),.c (.v (.string x12)),.c (.v (.int .i64 x13)),.c (.v (.int .i64 x14)),.c (.v (.string x15)),.c (.sl 3 x16 none),.c (.sl 5 x17 none),.c (.v (.int .i64 x18)),.c (.v (.int .i64 x19)),.c (.v (.string x20)),.c (.sl 3 x21 none),.c (.sl 5 x22 none),.c (.sl 6 x23 none),.c (.v (.int .i64 x24)),.c (.v (.int .i64 x25)),.c (.v (.string x26)),.c (.sl 3 x27 none),.c (.sl 5 x28 none),.c (.v (.int .i64 x29)),.c (.v (.int .i64 x30)),.c (.v (.string x31)),.c (.sl 3 x32 none),.c (.sl 5 x33 none)]),(4000,.blk 0 [.c (.v (.bool y1)),.c (.v (.bool y2)),.c (.v (.bool y3)),.c (.v (.bool y4)),.c (.v (.bool y5)),.c (.v (.bool y6)),.c (.v (.bool y7)),.c (.v (.bool y8))])],1⟩))∧p12_8 False fu K0 x8 x9 x10 x11 x12 x13 x14 x15 x16 x17 x18 x19 x20 x21 x22 x23 x24 x25 x26 x27 x28 x29 x30 x31 x32 x33 y4 y6 y7 y8 j16) (fun L hL_8=>?_) ?_
 conv=>cbv
 refine br_h hO h (by subst hO;rfl) (fun k16 h=>?_) (fun k16 h=>?_)
 conv=>cbv
 refine br_t hO k16 ?_
 conv=>cbv
 refine br_t hO k16 ?_
 conv=>cbv
 refine z0d hO [.shut] (d_p37 fu O.len hN h) ?_
 intro e Q a b
 conv=>cbv
 refine⟨by subst a hO;rfl,?_⟩
 intro r bs d
 rw [b] at d
 clear a b h
 obtain⟨y30,_,⟨rfl,rfl⟩,h⟩:=d
 conv=>cbv
 refine br_t hO k16 ?_
 conv=>cbv
 refine br_t hO k16 ?_
 conv=>cbv
 exact hL_8 _ _ ⟨(!y30),⟨(by (conv=>lhs;cbv)<;>(subst hO;rfl)),(by (conv=>lhs;cbv)<;>(subst hO;rfl))⟩,h⟩
 conv=>cbv
 refine br_f hO k16 ?_
 conv=>cbv
 refine br_f hO k16 ?_
 conv=>cbv
 refine br_f hO k16 ?_
 conv=>cbv
 refine br_f hO k16 ?_
 conv=>cbv
 exact hL_8 _ _ ⟨false,⟨(by (conv=>lhs;cbv)<;>(subst hO;rfl)),(by (conv=>lhs;cbv)<;>(subst hO;rfl))⟩,h⟩
 rintro tm m ⟨j16,hs,h⟩
 unfold p12_8 at h
 obtain⟨rfl,rfl⟩:=hs
 conv=>cbv
 refine z0e hO tiA h (by subst hO;rfl) [1,3,80] [2000,4000] [] (fun tm m=>∃ (j17:Bool),((tm=frame 0 144 [(1,.p 2000 0 0),(3,.p 4000 0 0),(80,.c (.v (.bool j17)))]∧m=⟨[(2000,.blk 0 [.c (.v (.int .i64 x0)),.c (.v (.int .i64 x1)),.c (.v (.int .i64 x2)),.c (.v (.int .i64 x3)),.c (.v (.int .u64 x4)),.c (.v (.int .u64 x5)),.c (.v (.int .u64 x6)),.c (.v (.int .u64 x7)),.c (.v (.int .i64 x8)),.c (.v (.int .i64 x9)),.c (.v (.int .i64 x10)),.c (.v (.string x11)),.c (.v (.string x12)),.c (.v (.int .i64 x13)),.c (.v (.int .i64 x14)),.c (.v (.string x15)),.c (.sl 3 x16 none),.c (.sl 5 x17 none),.c (.v (.int .i64 x18)),.c (.v (.int .i64 x19)),.c (.v (.string x20)),.c (.sl 3 x21 none),.c (.sl 5 x22 none),.c (.sl 6 x23 none),.c (.v (.int .i64 x24)),.c (.v (.int .i64 x25)),.c (.v (.string x26)),.c (.sl 3 x27 none),.c (.sl 5 x28 none),.c (.v (.int .i64 x29)),.c (.v (.int .i64 x30)),.c (.v (.string x31)),.c (.sl 3 x32 none),.c (.sl 5 x33 none)]),(4000,.blk 0 [.c (.v (.bool y1)),.c (.v (.bool y2)),.c (.v (.bool y3)),.c (.v (.bool y4)),.c (.v (.bool y5)),.c (.v (.bool y6)),.c (.v (.bool y7)),.c (.v (.bool y8))])],1⟩))∧p12_6 False fu K0 x8 x9 x10 x11 x12 x13 x14 x15 x16 x17 x18 x19 x20 x21 x22 x23 x29 x30 x31 x32 x33 y4 y7 y8 j17) (fun k14 h L hL_6=>?_) (fun k14 h L hL_6=>?_) ?_
 conv=>cbv
 exact hL_6 _ _ ⟨j16,⟨(by (conv=>lhs;cbv)<;>(subst hO;rfl)),(by (conv=>lhs;cbv)<;>(subst hO;rfl))⟩,h⟩
 conv=>cbv
 refine z0g hO tiA [1,3,80] [2000,4000] [] (fun tm m=>∃ (j28:Bool),((tm=frame 0 144 [(1,.p 2000 0 0),(3,.p 4000 0 0),(80,.c (.v (.bool j28)))]∧m=⟨[(2000,.blk 0 [.c (.v (.int .i64 x0)),.c (.v (.int .i64 x1)),.c (.v (.int .i64 x2)),.c (.v (.int .i64 x3)),.c (.v (.int .u64 x4)),.c (.v (.int .u64 x5)),.c (.v (.int .u64 x6)),.c (.v (.int .u64 x7)),.c (.v (.int .i64 x8)),.c (.v (.int .i64 x9)),.c (.v (.int .i64 x10)),.c (.v (.string x11)),.c (.v (.string x12)),.c (.v (.int .i64 x13)),.c (.v (.int .i64 x14)),.c (.v (.string x15)),.c (.sl 3 x16 none),.c (.sl 5 x17 none),.c (.v (.int .i64 x18)),.c (.v (.int .i64 x19)),.c (.v (.string x20)),.c (.sl 3 x21 none),.c (.sl 5 x22 none),.c (.sl 6 x23 none),.c (.v (.int .i64 x24)),.c (.v (.int .i64 x25)),.c (.v (.string x26)),.c (.sl 3 x27 none),.c (.sl 5 x28 none),.c (.v (.int .i64 x29)),.c (.v (.int .i64 x30)),.c (.v (.string x31)),.c (.sl 3 x32 none),.c (.sl 5 x33 none)]),(4000,.blk 0 [.c (.v (.bool y1)),.c (.v (.bool y2)),.c (.v (.bool y3)),.c (.v (.bool y4)),.c (.v (.bool y5)),.c (.v (.bool y6)),.c (.v (.bool y7)),.c (.v (.bool y8))])],1⟩))∧p12_7 False fu K0 x8 x9 x10 x11 x12 x13 x14 x15 x16 x17 x18 x19 x20 x21 x22 x23 x29 x30 x31 x32 x33 y4 y7 y8 j28) (fun L hL_7=>?_) ?_
 conv=>cbv
 refine br_h hO h (by subst hO;rfl) (fun k15 h=>?_) (fun k15 h=>?_)
 conv=>cbv
 refine br_t hO k15 ?_
 conv=>cbv
 refine br_t hO k15 ?_
 conv=>cbv
 refine z0d hO [.shut] (d_p38 fu O.len hN h) ?_
 intro e Q a b
 conv=>cbv
 refine⟨by subst a hO;rfl,?_⟩
 intro r bs d
 rw [b] at d
 clear a b h
 obtain⟨y29,_,⟨rfl,rfl⟩,h⟩:=d
 conv=>cbv
 refine br_t hO k15 ?_
 conv=>cbv
 refine br_t hO k15 ?_
 conv=>cbv
 exact hL_7 _ _ ⟨(!y29),⟨(by (conv=>lhs;cbv)<;>(subst hO;rfl)),(by (conv=>lhs;cbv)<;>(subst hO;rfl))⟩,h⟩
 conv=>cbv
 refine br_f hO k15 ?_
 conv=>cbv
 refine br_f hO k15 ?_
 conv=>cbv
 refine br_f hO k15 ?_
 conv=>cbv
 refine br_f hO k15 ?_
 conv=>cbv
 exact hL_7 _ _ ⟨false,⟨(by (conv=>lhs;cbv)<;>(subst hO;rfl)),(by (conv=>lhs;cbv)<;>(subst hO;rfl))⟩,h⟩
 rintro tm m ⟨j28,hs,h⟩
 unfold p12_7 at h
 obtain⟨rfl,rfl⟩:=hs
 conv=>cbv
 exact hL_6 _ _ ⟨j28,⟨(by (conv=>lhs;cbv)<;>(subst hO;rfl)),(by (conv=>lhs;cbv)<;>(subst hO;rfl))⟩,h⟩
 rintro tm m ⟨j17,hs,h⟩
 unfold p12_6 at h
 obtain⟨rfl,rfl⟩:=hs
 conv=>cbv
 refine br_h hO h (by subst hO;rfl) (fun k5 h=>?_) (fun k5 h=>?_)
 conv=>cbv
 rw [b]
 exact⟨false,_,⟨(by subst hO;rfl),(by subst hO;rfl)⟩,h⟩
 conv=>cbv
 refine z0g hO tiA [1,3,98] [2000,4000] [] (fun tm m=>∃ (j18:Bool),((tm=frame 0 144 [(1,.p 2000 0 0),(3,.p 4000 0 0),(98,.c (.v (.bool j18)))]∧m=⟨[(2000,.blk 0 [.c (.v (.int .i64 x0)),.c (.v (.int .i64 x1)),.c (.v (.int .i64 x2)),.c (.v (.int .i64 x3)),.c (.v (.int .u64 x4)),.c (.v (.int .u64 x5)),.c (.v (.int .u64 x6)),.c (.v (.int .u64 x7)),.c (.v (.int .i64 x8)),.c (.v (.int .i64 x9)),.c (.v (.int .i64 x10)),.c (.v (.string x11)),.c (.v (.string x12)),.c (.v (.int .i64 x13)),.c (.v (.int .i64 x14)),.c (.v (.string x15)),.c (.sl 3 x16 none),.c (.sl 5 x17 none),.c (.v (.int .i64 x18)),.c (.v (.int .i64 x19)),.c (.v (.string x20)),.c (.sl 3 x21 none),.c (.sl 5 x22 none),.c (.sl 6 x23 none),.c (.v (.int .i64 x24)),.c (.v (.int .i64 x25)),.c (.v (.string x26)),.c (.sl 3 x27 none),.c (.sl 5 x28 none),.c (.v (.int .i64 x29)),.c (.v (.int .i64 x30)),.c (.v (.string x31)),.c (.sl 3 x32 none),.c (.sl 5 x33 none)]),(4000,.blk 0 [.c (.v (.bool y1)),.c (.v (.bool y2)),.c (.v (.bool y3)),.c (.v (.bool y4)),.c (.v (.bool y5)),.c (.v (.bool y6)),.c (.v (.bool y7)),.c (.v (.bool y8))])],1⟩))∧p12_5 False fu K0 x8 x9 x10 x11 x12 x13 x14 x15 x16 x17 x18 x19 x20 x21 x22 x23 x29 x30 x31 x32 x33 y4 y7 y8 j18) (fun L hL_5=>?_) ?_
 conv=>cbv
 refine br_h hO h (by subst hO;rfl) (fun k13 h=>?_) (fun k13 h=>?_)
 conv=>cbv
 refine br_t hO k13 ?_
 conv=>cbv
 refine br_t hO k13 ?_
 conv=>cbv
 refine z0d hO [.shut] (d_p37 fu O.len hN h) ?_
 intro e Q a b
 conv=>cbv
 refine⟨by subst a hO;rfl,?_⟩
 intro r bs d
 rw [b] at d
 clear a b h
 obtain⟨y27,_,⟨rfl,rfl⟩,h⟩:=d
 conv=>cbv
 refine br_t hO k13 ?_
 conv=>cbv
 refine br_t hO k13 ?_
 conv=>cbv
 exact hL_5 _ _ ⟨(!y27),⟨(by (conv=>lhs;cbv)<;>(subst hO;rfl)),(by (conv=>lhs;cbv)<;>(subst hO;rfl))⟩,h⟩
 conv=>cbv
 refine br_f hO k13 ?_
 conv=>cbv
 refine br_f hO k13 ?_
 conv=>cbv
 refine br_f hO k13 ?_
 conv=>cbv
 refine br_f hO k13 ?_
 conv=>cbv
 exact hL_5 _ _ ⟨false,⟨(by (conv=>lhs;cbv)<;>(subst hO;rfl)),(by (conv=>lhs;cbv)<;>(subst hO;rfl))⟩,h⟩
 rintro tm m ⟨j18,hs,h⟩
 unfold p12_5 at h
 obtain⟨rfl,rfl⟩:=hs
 conv=>cbv
 refine z0e hO tiA h (by subst hO;rfl) [1,3,98] [2000,4000] [] (fun tm m=>∃ (j19:Bool),((tm=frame 0 144 [(1,.p 2000 0 0),(3,.p 4000 0 0),(98,.c (.v (.bool j19)))]∧m=⟨[(2000,.blk 0 [.c (.v (.int .i64 x0)),.c (.v (.int .i64 x1)),.c (.v (.int .i64 x2)),.c (.v (.int .i64 x3)),.c (.v (.int .u64 x4)),.c (.v (.int .u64 x5)),.c (.v (.int .u64 x6)),.c (.v (.int .u64 x7)),.c (.v (.int .i64 x8)),.c (.v (.int .i64 x9)),.c (.v (.int .i64 x10)),.c (.v (.string x11)),.c (.v (.string x12)),.c (.v (.int .i64 x13)),.c (.v (.int .i64 x14)),.c (.v (.string x15)),.c (.sl 3 x16 none),.c (.sl 5 x17 none),.c (.v (.int .i64 x18)),.c (.v (.int .i64 x19)),.c (.v (.string x20)),.c (.sl 3 x21 none),.c (.sl 5 x22 none),.c (.sl 6 x23 none),.c (.v (.int .i64 x24)),.c (.v (.int .i64 x25)),.c (.v (.string x26)),.c (.sl 3 x27 none),.c (.sl 5 x28 none),.c (.v (.int .i64 x29)),.c (.v (.int .i64 x30)),.c (.v (.string x31)),.c (.sl 3 x32 none),.c (.sl 5 x33 none)]),(4000,.blk 0 [.c (.v (.bool y1)),.c (.v (.bool y2)),.c (.v (.bool y3)),.c (.v (.bool y4)),.c (.v (.bool y5)),.c (.v (.bool y6)),.c (.v (.bool y7)),.c (.v (.bool y8))])],1⟩))∧p12_3 False fu K0 x8 x9 x10 x11 x12 x13 x14 x15 x16 x17 x18 x19 x20 x21 x22 x23 y4 y8 j19) (fun k11 h L hL_3=>?_) (fun k11 h L hL_3=>?_) ?_
 conv=>cbv
 exact hL_3 _ _ ⟨j18,⟨(by (conv=>lhs;cbv)<;>(subst hO;rfl)),(by (conv=>lhs;cbv)<;>(subst hO;rfl))⟩,h⟩
 conv=>cbv
 refine z0g hO tiA [1,3,98] [2000,4000] [] (fun tm m=>∃ (j25:Bool),((tm=frame 0 144 [(1,.p 2000 0 0),(3,.p 4000 0 0),(98,.c (.v (.bool j25)))]∧m=⟨[(2000,.blk 0 [.c (.v (.int .i64 x0)),.c (.v (.int .i64 x1)),.c (.v (.int .i64 x2)),.c (.v (.int .i64 x3)),.c (.v (.int .u64 x4)),.c (.v (.int .u64 x5)),.c (.v (.int .u64 x6)),.c (.v (.int .u64 x7)),.c (.v (.int .i64 x8)),.c (.v (.int .i64 x9)),.c (.v (.int .i64 x10)),.c (.v (.string x11)),.c (.v (.string x12)),.c (.v (.int .i64 x13)),.c (.v (.int .i64 x14)),.c (.v (.string x15)),.c (.sl 3 x16 none),.c (.sl 5 x17 none),.c (.v (.int .i64 x18)),.c (.v (.int .i64 x19)),.c (.v (.string x20)),.c (.sl 3 x21 none),.c (.sl 5 x22 none),.c (.sl 6 x23 none),.c (.v (.int .i64 x24)),.c (.v (.int .i64 x25)),.c (.v (.string x26)),.c (.sl 3 x27 none),.c (.sl 5 x28 none),.c (.v (.int .i64 x29)),.c (.v (.int .i64 x30)),.c (.v (.string x31)),.c (.sl 3 x32 none),.c (.sl 5 x33 none)]),(4000,.blk 0 [.c (.v (.bool y1)),.c (.v (.bool y2)),.c (.v (.bool y3)),.c (.v (.bool y4)),.c (.v (.bool y5)),.c (.v (.bool y6)),.c (.v (.bool y7)),.c (.v (.bool y8))])],1⟩))∧p12_4 False fu K0 x8 x9 x10 x11 x12 x13 x14 x15 x16 x17 x18 x19 x20 x21 x22 x23 y4 y8 j25) (fun L hL_4=>?_) ?_
 conv=>cbv
 refine br_h hO h (by subst hO;rfl) (fun k12 h=>?_) (fun k12 h=>?_)
 conv=>cbv
 refine br_t hO k12 ?_
 conv=>cbv
 refine br_t hO k12 ?_
 conv=>cbv
 refine z0d hO [.shut] (d_p38 fu O.len hN h) ?_
 intro e Q a b
 conv=>cbv
 refine⟨by subst a hO;rfl,?_⟩
 intro r bs d
 rw [b] at d
 clear a b h
 obtain⟨y26,_,⟨rfl,rfl⟩,h⟩:=d
 conv=>cbv
 refine br_t hO k12 ?_
 conv=>cbv
 refine br_t hO k12 ?_
 conv=>cbv
 exact hL_4 _ _ ⟨(!y26),⟨(by (conv=>lhs;cbv)<;>(subst hO;rfl)),(by (conv=>lhs;cbv)<;>(subst hO;rfl))⟩,h⟩
 conv=>cbv
 refine br_f hO k12 ?_
 conv=>cbv
 refine br_f hO k12 ?_
 conv=>cbv
 refine br_f hO k12 ?_
 conv=>cbv
 refine br_f hO k12 ?_
 conv=>cbv
 exact hL_4 _ _ ⟨false,⟨(by (conv=>lhs;cbv)<;>(subst hO;rfl)),(by (conv=>lhs;cbv)<;>(subst hO;rfl))⟩,h⟩
 rintro tm m ⟨j25,hs,h⟩
 unfold p12_4 at h
 obtain⟨rfl,rfl⟩:=hs
 conv=>cbv
 exact hL_3 _ _ ⟨j25,⟨(by (conv=>lhs;cbv)<;>(subst hO;rfl)),(by (conv=>lhs;cbv)<;>(subst hO;rfl))⟩,h⟩
 rintro tm m ⟨j19,hs,h⟩
 unfold p12_3 at h
 obtain⟨rfl,rfl⟩:=hs
 conv=>cbv
 refine br_h hO h (by subst hO;rfl) (fun k6 h=>?_) (fun k6 h=>?_)
 conv=>cbv
 rw [b]
 exact⟨false,_,⟨(by subst hO;rfl),(by subst hO;rfl)⟩,h⟩
 conv=>cbv
 refine br_h hO h (by subst hO;rfl) (fun k7 h=>?_) (fun k7 h=>?_)
 conv=>cbv
 refine z0d hO [.shut] (d_p39 fu O.len hN h) ?_
 intro e Q a b
 conv=>cbv
 refine⟨by subst a hO;rfl,?_⟩
 intro r bs d
 rw [b] at d
 clear a b h
 obtain⟨y20,_,⟨rfl,rfl⟩,h⟩:=d
 conv=>cbv
 rw [b]
 exact⟨y20,_,⟨(by subst hO;rfl),(by subst hO;rfl)⟩,h⟩
 conv=>cbv
 refine br_h hO h (by subst hO;rfl) (fun k8 h=>?_) (fun k8 h=>?_)
 conv=>cbv
 refine z0g hO tiA [2] [] [] (fun tm m=>∃ (j21:Bool),((tm=frame 0 144 [(2,.c (.v (.bool j21)))]∧m=⟨[],1⟩))∧p12_1 False fu K0 j21) (fun L hL_1=>?_) ?_
 conv=>cbv
 refine z0d hO [.shut] (d_p40 fu O.len hN h) ?_
 intro e Q a b
 conv=>cbv
 refine⟨by subst a hO;rfl,?_⟩
 intro r bs d
 rw [b] at d
 clear a b h
 obtain⟨y22,_,⟨rfl,rfl⟩,h⟩:=d
 conv=>cbv
 refine br_h hO h (by subst hO;rfl) (fun k9 h=>?_) (fun k9 h=>?_)
 conv=>cbv
 refine br_t hO k9 ?_
 conv=>cbv
 refine br_t hO k9 ?_
 conv=>cbv
 refine br_t hO k9 ?_
 conv=>cbv
 refine br_t hO k9 ?_
 conv=>cbv
 refine br_t hO k9 ?_
 conv=>cbv
 exact hL_1 _ _ ⟨(z0a .leq ((x11.size:Nat):Int) 24),⟨(by (conv=>lhs;cbv)<;>(subst hO;rfl)),(by (conv=>lhs;cbv)<;>(subst hO;rfl))⟩,h⟩
 conv=>cbv
 refine br_f hO k9 ?_
 conv=>cbv
 refine br_f hO k9 ?_
 conv=>cbv
 refine br_f hO k9 ?_
 conv=>cbv
 refine br_f hO k9 ?_
 conv=>cbv
 refine br_f hO k9 ?_
 conv=>cbv
 exact hL_1 _ _ ⟨false,⟨(by (conv=>lhs;cbv)<;>(subst hO;rfl)),(by (conv=>lhs;cbv)<;>(subst hO;rfl))⟩,h⟩
 rintro tm m ⟨j21,hs,h⟩
 unfold p12_1 at h
 obtain⟨rfl,rfl⟩:=hs
 conv=>cbv
 rw [b]
 exact⟨j21,_,⟨(by subst hO;rfl),(by subst hO;rfl)⟩,h⟩
 conv=>cbv
 refine z0b hO ?_
 conv=>cbv
 refine z0b hO ?_
 conv=>cbv
 refine z0b hO ?_
 conv=>cbv
 refine z0b hO ?_
 conv=>cbv
 refine z0b hO ?_
 conv=>cbv
 refine z0b hO ?_
 conv=>cbv
 refine z0b hO ?_
 conv=>cbv
 refine z0b hO ?_
 conv=>cbv
 refine z0g hO tiA [2] [] [] (fun tm m=>∃ (j23:Bool),((tm=frame 0 144 [(2,.c (.v (.bool j23)))]∧m=⟨[],1⟩))∧p12_2 False fu K0 j23) (fun L hL_2=>?_) ?_
 conv=>cbv
 refine z0d hO [.shut] (d_p40 fu O.len hN h) ?_
 intro e Q a b
 conv=>cbv
 refine⟨by subst a hO;rfl,?_⟩
 intro r bs d
 rw [b] at d
 clear a b h
 obtain⟨y24,_,⟨rfl,rfl⟩,h⟩:=d
 conv=>cbv
 refine br_h hO h (by subst hO;rfl) (fun k10 h=>?_) (fun k10 h=>?_)
 conv=>cbv
 refine br_t hO k10 ?_
 conv=>cbv
 refine br_t hO k10 ?_
 conv=>cbv
 refine br_t hO k10 ?_
 conv=>cbv
 refine br_t hO k10 ?_
 conv=>cbv
 exact hL_2 _ _ ⟨(z2f .eql x11 ⟨#[]⟩),⟨(by (conv=>lhs;cbv)<;>(subst hO;rfl)),(by (conv=>lhs;cbv)<;>(subst hO;rfl))⟩,h⟩
 conv=>cbv
 refine br_f hO k10 ?_
 conv=>cbv
 refine br_f hO k10 ?_
 conv=>cbv
 refine br_f hO k10 ?_
 conv=>cbv
 refine br_f hO k10 ?_
 conv=>cbv
 exact hL_2 _ _ ⟨false,⟨(by (conv=>lhs;cbv)<;>(subst hO;rfl)),(by (conv=>lhs;cbv)<;>(subst hO;rfl))⟩,h⟩
 rintro tm m ⟨j23,hs,h⟩
 unfold p12_2 at h
 obtain⟨rfl,rfl⟩:=hs
 conv=>cbv
 rw [b]
 exact⟨j23,_,⟨(by subst hO;rfl),(by subst hO;rfl)⟩,h⟩
theorem d_p30 (fu:Nat){K0:EL→Prop}(L:EL→Nat)(hN:L=List.length){x0:EL}(h:p30 False fu K0 x0):Den Try.prog G0 30 [.c (.sl 1 x0 none)] (fun r bs=>(∃ (y0:EL) (o0:OV),(r=.ptr [.arr 1 y0 none false (L y0)]∧bs=[o0])∧K0 y0)):=by
 obtain⟨O,hO⟩:∃ O,O=std 0 T G0 (Den Try.prog G0):=⟨_,rfl⟩
 have hLO:L=O.len:=by rw [hN,hO];rfl
 subst hLO
 refine den_h hO tiA mixed tabOk (fn:=Try.f30) (sh:=true) (by kernel_rfl) rfl rfl rfl rfl ?_
 intro Q b
 unfold p30 at h
 conv=>cbv
 refine and_h h (fun g=>(by subst hO;exact g)) (fun h=>?_)
 refine and_h h (fun g=>(by subst hO;exact g)) (fun h=>?_)
 refine⟨(by subst hO;exact Nat.le_refl _),?_⟩
 rw [b]
 exact⟨(nilE++x0),_,⟨(by subst hO;rfl),(by subst hO;rfl)⟩,h⟩
theorem d_p66 (fu:Nat){K0:EL→Prop}(L:EL→Nat)(hN:L=List.length){x0:EL}{x1:Int}(h:p66 False fu K0 x0 x1):Den Try.prog G0 66 [.c (.sl 1 x0 none),.c (.v (.int .i64 x1))] (fun r bs=>(∃ (y0:EL) (o0 o1:OV),(r=.arr 1 y0 none false (L y0)∧bs=[o0,o1])∧K0 y0)):=by
 obtain⟨O,hO⟩:∃ O,O=std 0 T G0 (Den Try.prog G0):=⟨_,rfl⟩
 have hLO:L=O.len:=by rw [hN,hO];rfl
 subst hLO
 refine den_h hO tiA mixed tabOk (fn:=Try.f66) (sh:=false) (by kernel_rfl) rfl rfl rfl rfl ?_
 intro Q b
 unfold p66 at h
 conv=>cbv
 refine and_h h (fun g=>(by subst hO;exact g)) (fun h=>?_)
 refine and_h h (fun g=>(by subst hO;exact g)) (fun h=>?_)
 refine and_h h (fun g=>(by subst hO;exact g)) (fun h=>?_)
 refine and_h h (fun g=>(by subst hO;exact g)) (fun h=>?_)
 refine and_h h (fun g=>(by subst hO;exact g)) (fun h=>?_)
 refine⟨(by subst hO;exact Nat.le_refl _),?_⟩
 rw [b]
 exact⟨((List.replicate ((0:Int).toNat) [(CV.v (.int .u8 0))])++x0),_,_,⟨(by subst hO;rfl),(by subst hO;rfl)⟩,h⟩
theorem d_p65 (fu:Nat){K0:EL→Prop}(L:EL→Nat)(hN:L=List.length){x0:EL}{x1:Int}(h:p65 False fu K0 x0 x1):Den Try.prog G0 65 [.c (.sl 1 x0 none),.c (.v (.int .u64 x1))] (fun r bs=>(∃ (y0:EL) (o0 o1:OV),(r=.c (.sl 1 y0 none)∧bs=[o0,o1])∧K0 y0)):=by
 obtain⟨O,hO⟩:∃ O,O=std 0 T G0 (Den Try.prog G0):=⟨_,rfl⟩
 have hLO:L=O.len:=by rw [hN,hO];rfl
 subst hLO
 refine den_h hO tiA mixed tabOk (fn:=Try.f65) (sh:=true) (by kernel_rfl) rfl rfl rfl rfl ?_
 intro Q b
 unfold p65 at h
 conv=>cbv
 refine z0d hO [.shut,.shut] (d_p66 fu O.len hN h) ?_
 intro e Q a b
 conv=>cbv
 refine⟨by subst a hO;rfl,?_⟩
 intro r bs d
 rw [b] at d
 clear a b h
 obtain⟨y1,_,_,⟨rfl,rfl⟩,h⟩:=d
 conv=>cbv
 refine z0r hO tiA [1,5] [8000] [] (fun (n:Nat) tm m=>∃ (z2:Int) (z3:EL),((tm=frame 0 23 [(1,.c (.v (.int .u64 z2))),(5,.t 8000 0 (O.len z3))]∧m=⟨[(8000,.arr 0 1 z3 none false)],1⟩))∧p65_1L False fu K0 n z2 z3) (fun n=>n) fu ⟨x1,y1,⟨(by (conv=>lhs;cbv)<;>(subst hO;rfl)),(by (conv=>lhs;cbv)<;>(subst hO;rfl))⟩,h⟩ ?_
 rintro n1 tm m L ⟨z2,z3,hs,h⟩ hLn1
 (cases n1 with
 | zero=>rw [p65_1L] at h;exact h.elim
 | succ n1 =>
 rw [p65_1L] at h
 unfold p65_1 at h
 obtain⟨rfl,rfl⟩:=hs
 conv=>cbv
 refine br_h hO h (by subst hO;rfl) (fun k1 h=>?_) (fun k1 h=>?_)
 conv=>cbv
 refine z0b hO ?_
 conv=>cbv
 refine alt_l hO ?_
 conv=>cbv
 refine z0z hO h (fun g=>(by subst hO;exact g)) (fun h=>?_)
 conv=>cbv
 refine⟨(by subst hO;rfl),?_⟩
 refine and_h h (fun g=>(by subst hO;exact g)) (fun h=>?_)
 refine and_h h (fun g=>(by subst hO;exact g)) (fun h=>?_)
 exact hLn1 n1 _ _ (Nat.lt_succ_self n1) ⟨z0c .shr .u64 z2 7,(z3++(List.take 1 [[(CV.v (.int .u8 (z0c .or .u8 (IntKind.u8.wrap z2) 128)))]])),⟨(by (conv=>lhs;cbv)<;>(subst hO;rfl)),(by (conv=>lhs;cbv)<;>(subst hO;rfl))⟩,h⟩
 conv=>cbv
 refine alt_l hO ?_
 conv=>cbv
 refine z0z hO h (fun g=>(by subst hO;exact g)) (fun h=>?_)
 conv=>cbv
 refine⟨(by subst hO;rfl),?_⟩
 refine and_h h (fun g=>(by subst hO;exact g)) (fun h=>?_)
 refine z0k hO ?_
 conv=>cbv
 rw [b]
 exact⟨(z3++(List.take 1 [[(CV.v (.int .u8 (IntKind.u8.wrap z2)))]])),_,_,⟨(by subst hO;rfl),(by subst hO;rfl)⟩,h⟩)
theorem d_p52 (fu:Nat){K0:EL→Prop}(L:EL→Nat)(hN:L=List.length){x0:EL}{x1:Int}(h:p52 False fu K0 x0 x1):Den Try.prog G0 52 [.ptr [.arr 1 x0 none false (L x0)],.c (.v (.int .u64 x1))] (fun r bs=>(∃ (y0:EL) (o1:OV),(r=.tup []∧bs=[.ptr [.arr 1 y0 none false (L y0)],o1])∧K0 y0)):=by
 obtain⟨O,hO⟩:∃ O,O=std 2 T G0 (Den Try.prog G0):=⟨_,rfl⟩
 have hLO:L=O.len:=by rw [hN,hO];rfl
 subst hLO
 refine den_h hO tiA mixed tabOk (fn:=Try.f52) (sh:=true) (by kernel_rfl) rfl rfl rfl rfl ?_
 intro Q b
 unfold p52 at h
 conv=>cbv
 refine z0o hO tiA [[],[],[],[]] [(0,true,false),(1,true,false),(2,true,false),(3,true,false),(4,true,false),(5,true,false),(6,false,false),(7,false,true),(8,true,true),(9,true,true),(10,false,true)] (by kernel_rfl) ?_
 conv=>cbv
 refine z0d hO [.shut,.shut] (d_p65 fu O.len hN h) ?_
 intro e Q a b
 conv=>cbv
 refine⟨by subst a hO;rfl,?_⟩
 intro r bs d
 rw [b] at d
 clear a b h
 obtain⟨y1,_,_,⟨rfl,rfl⟩,h⟩:=d
 conv=>cbv
 refine agr hO rfl rfl ?_
 refine⟨(by subst hO;rfl),?_⟩
 refine and_h h (fun g=>(by subst hO;exact g)) (fun h=>?_)
 refine z0b hO ?_
 conv=>cbv
 refine⟨(by subst hO;exact Nat.le_refl _),?_⟩
 rw [b]
 exact⟨(x0++y1),_,⟨(by subst hO;rfl),(by subst hO;rfl)⟩,h⟩
theorem d_p31 (fu:Nat){K0:EL→Prop}(L:EL→Nat)(hN:L=List.length){x0 x1:EL}(h:p31 False fu K0 x0 x1):Den Try.prog G0 31 [.ptr [.arr 1 x0 none false (L x0)],.c (.sl 1 x1 none)] (fun r bs=>(∃ (y0:EL) (o1:OV),(r=.tup []∧bs=[.ptr [.arr 1 y0 none false (L y0)],o1])∧K0 y0)):=by
 obtain⟨O,hO⟩:∃ O,O=std 2 T G0 (Den Try.prog G0):=⟨_,rfl⟩
 have hLO:L=O.len:=by rw [hN,hO];rfl
 subst hLO
 refine den_h hO tiA mixed tabOk (fn:=Try.f31) (sh:=true) (by kernel_rfl) rfl rfl rfl rfl ?_
 intro Q b
 unfold p31 at h
 conv=>cbv
 refine z0r hO tiA [0,6,7,8] [0,1000000] [] (fun (n:Nat) tm m=>∃ (z1:EL) (z2:Int) (z3:Int),((tm=frame 0 17 [(0,.p 0 1 0),(6,.c (.sl 1 x1 none)),(7,.c (.v (.int .i64 z2))),(8,.c (.v (.int .i64 z3)))]∧m=⟨[(0,.blk 1 [.t 1000000 2 (O.len z1)]),(1000000,.arr 2 1 z1 none false)],3⟩))∧p31_1L False fu K0 x1 n z1 z2 z3) (fun n=>n) fu ⟨x0,((x1.length:Nat):Int),0,⟨(by (conv=>lhs;cbv)<;>(subst hO;rfl)),(by (conv=>lhs;cbv)<;>(subst hO;rfl))⟩,h⟩ ?_
 rintro n1 tm m L ⟨z1,z2,z3,hs,h⟩ hLn1
 (cases n1 with
 | zero=>rw [p31_1L] at h;exact h.elim
 | succ n1 =>
 rw [p31_1L] at h
 unfold p31_1 at h
 obtain⟨rfl,rfl⟩:=hs
 conv=>cbv
 refine br_h hO h (by subst hO;rfl) (fun k1 h=>?_) (fun k1 h=>?_)
 conv=>cbv
 refine z0b hO ?_
 conv=>cbv
 refine and_h h (fun g=>(by subst hO;exact g)) (fun h=>?_)
 refine and_h h (fun g=>(by subst hO;exact g)) (fun h=>?_)
 obtain⟨c4,hr,h⟩:=w6s h
 refine z1a hO _ (by subst hO;exact hr) ?_
 clear hr
 conv=>cbv
 refine z0d hO [.ref 1,.shut] (d_p52 fu O.len hN h) ?_
 intro e Q a b
 conv=>cbv
 refine⟨(by subst hO;exact Nat.le_refl _),?_⟩
 refine⟨by subst a hO;rfl,?_⟩
 intro r bs d
 rw [b] at d
 clear a b h
 obtain⟨y5,_,⟨rfl,rfl⟩,h⟩:=d
 conv=>cbv
 exact hLn1 n1 _ _ (Nat.lt_succ_self n1) ⟨y5,z2,z0c .add .i64 z3 1,⟨(by (conv=>lhs;cbv)<;>(subst hO;rfl)),(by (conv=>lhs;cbv)<;>(subst hO;rfl))⟩,h⟩
 conv=>cbv
 refine⟨(by subst hO;exact Nat.le_refl _),?_⟩
 rw [b]
 exact⟨z1,_,⟨(by subst hO;rfl),(by subst hO;rfl)⟩,h⟩)
theorem d_p53 (fu:Nat){K0:EL→Prop}(L:EL→Nat)(hN:L=List.length){x0:EL}{x1:Int}(h:p53 False fu K0 x0 x1):Den Try.prog G0 53 [.c (.sl 1 x0 none),.c (.v (.int .u64 x1))] (fun r bs=>(∃ (y0:EL) (o0 o1:OV),(r=.arr 1 y0 none false (L y0)∧bs=[o0,o1])∧K0 y0)):=by
 obtain⟨O,hO⟩:∃ O,O=std 0 T G0 (Den Try.prog G0):=⟨_,rfl⟩
 have hLO:L=O.len:=by rw [hN,hO];rfl
 subst hLO
 refine den_h hO tiA mixed tabOk (fn:=Try.f53) (sh:=false) (by kernel_rfl) rfl rfl rfl rfl ?_
 intro Q b
 unfold p53 at h
 conv=>cbv
 refine z0d hO [.shut,.shut] (d_p66 fu O.len hN h) ?_
 intro e Q a b
 conv=>cbv
 refine⟨by subst a hO;rfl,?_⟩
 intro r bs d
 rw [b] at d
 clear a b h
 obtain⟨y1,_,_,⟨rfl,rfl⟩,h⟩:=d
 conv=>cbv
 refine z0r hO tiA [1,5,6] [9000] [] (fun (n:Nat) tm m=>∃ (z2:EL) (z3:Int),((tm=frame 0 22 [(1,.c (.v (.int .u64 x1))),(5,.t 9000 0 (O.len z2)),(6,.c (.v (.int .i64 z3)))]∧m=⟨[(9000,.arr 0 1 z2 none false)],1⟩))∧p53_1L False fu K0 x1 n z2 z3) (fun n=>n) fu ⟨y1,56,⟨(by (conv=>lhs;cbv)<;>(subst hO;rfl)),(by (conv=>lhs;cbv)<;>(subst hO;rfl))⟩,h⟩ ?_
 rintro n1 tm m L ⟨z2,z3,hs,h⟩ hLn1
 (cases n1 with
 | zero=>rw [p53_1L] at h;exact h.elim
 | succ n1 =>
 rw [p53_1L] at h
 unfold p53_1 at h
 obtain⟨rfl,rfl⟩:=hs
 conv=>cbv
 refine br_h hO h (by subst hO;rfl) (fun k1 h=>?_) (fun k1 h=>?_)
 conv=>cbv
 refine z0b hO ?_
 conv=>cbv
 refine alt_l hO ?_
 conv=>cbv
 refine and_h h (fun g=>(by subst hO;exact g)) (fun h=>?_)
 refine z0z hO h (fun g=>(by subst hO;exact g)) (fun h=>?_)
 conv=>cbv
 refine⟨(by subst hO;rfl),?_⟩
 refine and_h h (fun g=>(by subst hO;exact g)) (fun h=>?_)
 exact hLn1 n1 _ _ (Nat.lt_succ_self n1) ⟨(z2++(List.take 1 [[(CV.v (.int .u8 (IntKind.u8.wrap (z0c .shr .u64 x1 (IntKind.u64.wrap z3)))))]])),z0c .sub .i64 z3 8,⟨(by (conv=>lhs;cbv)<;>(subst hO;rfl)),(by (conv=>lhs;cbv)<;>(subst hO;rfl))⟩,h⟩
 conv=>cbv
 refine alt_l hO ?_
 conv=>cbv
 refine⟨(by subst hO;exact Nat.le_refl _),?_⟩
 rw [b]
 exact⟨z2,_,_,⟨(by subst hO;rfl),(by subst hO;rfl)⟩,h⟩)
theorem d_p32 (fu:Nat){K0:EL→Prop}(L:EL→Nat)(hN:L=List.length){x0:EL}{x1 x2:Int}(h:p32 False fu K0 x0 x1 x2):Den Try.prog G0 32 [.c (.sl 1 x0 none),.agg [.c (.v (.int .u64 x1)),.c (.v (.int .u64 x2))]] (fun r bs=>(∃ (y0:EL) (o0 o1:OV),(r=.arr 1 y0 none false (L y0)∧bs=[o0,o1])∧K0 y0)):=by
 obtain⟨O,hO⟩:∃ O,O=std 0 T G0 (Den Try.prog G0):=⟨_,rfl⟩
 have hLO:L=O.len:=by rw [hN,hO];rfl
 subst hLO
 refine den_h hO tiA mixed tabOk (fn:=Try.f32) (sh:=false) (by kernel_rfl) rfl rfl rfl rfl ?_
 intro Q b
 unfold p32 at h
 conv=>cbv
 refine z0o hO tiA [[],[],[]] [(0,true,false),(1,true,false),(2,true,false),(4,true,false),(5,true,false),(3,false,false),(6,false,true),(7,true,true)] (by kernel_rfl) ?_
 conv=>cbv
 refine z0d hO [.shut,.shut] (d_p53 fu O.len hN h) ?_
 intro e Q a b
 conv=>cbv
 refine⟨by subst a hO;rfl,?_⟩
 intro r bs d
 rw [b] at d
 clear a b h
 obtain⟨y1,_,_,⟨rfl,rfl⟩,h⟩:=d
 conv=>cbv
 refine agr hO rfl rfl ?_
 refine z0d hO [.shut,.shut] (d_p53 fu O.len hN h) ?_
 intro e Q a b
 conv=>cbv
 refine z0k hO ?_
 conv=>cbv
 refine⟨by subst a hO;rfl,?_⟩
 intro r bs d
 rw [b] at d
 clear a b h
 obtain⟨y2,_,_,⟨rfl,rfl⟩,h⟩:=d
 conv=>cbv
 refine z0b hO ?_
 conv=>cbv
 refine⟨(by subst hO;exact Nat.le_refl _),?_⟩
 rw [b]
 exact⟨y2,_,_,⟨(by subst hO;rfl),(by subst hO;rfl)⟩,h⟩
theorem d_p35 (fu:Nat){K0:EL→Prop}(L:EL→Nat)(hN:L=List.length){x0 x1:EL}(h:p35 False fu K0 x0 x1):Den Try.prog G0 35 [.ptr [.arr 1 x0 none false (L x0)],.c (.sl 1 x1 none)] (fun r bs=>(∃ (y0:EL) (o1:OV),(r=.tup []∧bs=[.ptr [.arr 1 y0 none false (L y0)],o1])∧K0 y0)):=by
 obtain⟨O,hO⟩:∃ O,O=std 2 T G0 (Den Try.prog G0):=⟨_,rfl⟩
 have hLO:L=O.len:=by rw [hN,hO];rfl
 subst hLO
 refine den_h hO tiA mixed tabOk (fn:=Try.f35) (sh:=true) (by kernel_rfl) rfl rfl rfl rfl ?_
 intro Q b
 unfold p35 at h
 conv=>cbv
 refine z0d hO [.ref 1,.shut] (d_p52 fu O.len hN h) ?_
 intro e Q a b
 conv=>cbv
 refine⟨(by subst hO;exact Nat.le_refl _),?_⟩
 refine⟨by subst a hO;rfl,?_⟩
 intro r bs d
 rw [b] at d
 clear a b h
 obtain⟨y1,_,⟨rfl,rfl⟩,h⟩:=d
 conv=>cbv
 refine⟨(by subst hO;rfl),?_⟩
 refine and_h h (fun g=>(by subst hO;exact g)) (fun h=>?_)
 refine⟨(by subst hO;exact Nat.le_refl _),?_⟩
 rw [b]
 exact⟨(y1++x1),_,⟨(by subst hO;rfl),(by subst hO;rfl)⟩,h⟩
def D_p54 (fu:Nat):Prop:=∀ {K0:EL→Prop} (L:EL→Nat) (_:L=List.length) {x0:EL} {x1 x2:Int} {x3:EL} (_:p54 False fu K0 x0 x1 x2 x3),Den Try.prog G0 54 [.ptr [.arr 1 x0 none false (L x0)],.agg [.c (.v (.int .i64 x1)),.c (.v (.int .i64 x2)),.c (.sl 3 x3 none)]] (fun r bs=>(∃ (y0:EL) (o1:OV),(r=.tup []∧bs=[.ptr [.arr 1 y0 none false (L y0)],o1])∧K0 y0))
theorem b_p54 (fu:Nat)(ih_p54:D_p54 fu){K0:EL→Prop}(L:EL→Nat)(hN:L=List.length){x0:EL}{x1 x2:Int}{x3:EL}(h:p54_b False fu (p54 False fu) K0 x0 x1 x2 x3):Den Try.prog G0 54 [.ptr [.arr 1 x0 none false (L x0)],.agg [.c (.v (.int .i64 x1)),.c (.v (.int .i64 x2)),.c (.sl 3 x3 none)]] (fun r bs=>(∃ (y0:EL) (o1:OV),(r=.tup []∧bs=[.ptr [.arr 1 y0 none false (L y0)],o1])∧K0 y0)):=by
 obtain⟨O,hO⟩:∃ O,O=std 2 T G0 (Den Try.prog G0):=⟨_,rfl⟩
 have hLO:L=O.len:=by rw [hN,hO];rfl
 subst hLO
 refine den_h hO tiA mixed tabOk (fn:=Try.f54) (sh:=true) (by kernel_rfl) rfl rfl rfl rfl ?_
 intro Q b
 unfold p54_b at h
 conv=>cbv
 have hz:=z1f h
 have k4:=hz.1
 replace h:=hz.2
 clear hz
 refine z0d hO [.ref 1,.shut] (d_p31 fu O.len hN h) ?_
 intro e Q a b
 conv=>cbv
 refine⟨(by subst hO;exact Nat.le_refl _),?_⟩
 refine z1p hO (by subst hO;exact k4) ?_
 conv=>cbv
 refine⟨by subst a hO;rfl,?_⟩
 intro r bs d
 rw [b] at d
 clear a b h
 obtain⟨y1,_,⟨rfl,rfl⟩,h⟩:=d
 conv=>cbv
 refine z0e hO tiA h (by subst hO;rfl) [0,3] [0,4000,1000000] [] (fun tm m=>∃ (j2:EL),((tm=frame 0 30 [(0,.p 0 1 0),(3,.p 4000 2 0)]∧m=⟨[(0,.blk 1 [.t 1000000 2 (O.len j2)]),(4000,.blk 2 [.c (.v (.int .i64 x1)),.c (.v (.int .i64 x2)),.c (.sl 3 x3 none)]),(1000000,.arr 2 1 j2 none false)],3⟩))∧p54_2 False fu (p54 False fu) K0 x3 j2) (fun k2 h L hL_2=>?_) (fun k2 h L hL_2=>?_) ?_
 conv=>cbv
 have hz:=z1f h
 have k3:=hz.1
 replace h:=hz.2
 clear hz
 refine z0d hO [.ref 1,.shut] (d_p31 fu O.len hN h) ?_
 intro e Q a b
 conv=>cbv
 refine⟨(by subst hO;exact Nat.le_refl _),?_⟩
 refine z1p hO (by subst hO;exact k3) ?_
 conv=>cbv
 refine⟨by subst a hO;rfl,?_⟩
 intro r bs d
 rw [b] at d
 clear a b h
 obtain⟨y10,_,⟨rfl,rfl⟩,h⟩:=d
 conv=>cbv
 exact hL_2 _ _ ⟨y10,⟨(by (conv=>lhs;cbv)<;>(subst hO;rfl)),(by (conv=>lhs;cbv)<;>(subst hO;rfl))⟩,h⟩
 conv=>cbv
 exact hL_2 _ _ ⟨y1,⟨(by (conv=>lhs;cbv)<;>(subst hO;rfl)),(by (conv=>lhs;cbv)<;>(subst hO;rfl))⟩,h⟩
 rintro tm m ⟨j2,hs,h⟩
 unfold p54_2 at h
 obtain⟨rfl,rfl⟩:=hs
 conv=>cbv
 refine z0r hO tiA [0,20,21,22] [0,1000000] [] (fun (n:Nat) tm m=>∃ (z3:EL) (z4:Int) (z5:Int),((tm=frame 0 30 [(0,.p 0 1 0),(20,.c (.sl 3 x3 none)),(21,.c (.v (.int .i64 z4))),(22,.c (.v (.int .i64 z5)))]∧m=⟨[(0,.blk 1 [.t 1000000 2 (O.len z3)]),(1000000,.arr 2 1 z3 none false)],3⟩))∧p54_1L False fu (p54 False fu) K0 x3 n z3 z4 z5) (fun n=>n) fu ⟨j2,((x3.length:Nat):Int),0,⟨(by (conv=>lhs;cbv)<;>(subst hO;rfl)),(by (conv=>lhs;cbv)<;>(subst hO;rfl))⟩,h⟩ ?_
 rintro n1 tm m L ⟨z3,z4,z5,hs,h⟩ hLn1
 (cases n1 with
 | zero=>rw [p54_1L] at h;exact h.elim
 | succ n1 =>
 rw [p54_1L] at h
 unfold p54_1 at h
 obtain⟨rfl,rfl⟩:=hs
 conv=>cbv
 refine br_h hO h (by subst hO;rfl) (fun k1 h=>?_) (fun k1 h=>?_)
 conv=>cbv
 refine z0b hO ?_
 conv=>cbv
 refine and_h h (fun g=>(by subst hO;exact g)) (fun h=>?_)
 refine and_h h (fun g=>(by subst hO;exact g)) (fun h=>?_)
 obtain⟨c6,c7,c8,hr,h⟩:=z0v h
 refine z1a hO _ (by subst hO;exact hr) ?_
 clear hr
 conv=>cbv
 refine z0d hO [.ref 1,.shut] (ih_p54 O.len hN h) ?_
 intro e Q a b
 conv=>cbv
 refine⟨(by subst hO;exact Nat.le_refl _),?_⟩
 refine⟨by subst a hO;rfl,?_⟩
 intro r bs d
 rw [b] at d
 clear a b h
 obtain⟨y9,_,⟨rfl,rfl⟩,h⟩:=d
 conv=>cbv
 exact hLn1 n1 _ _ (Nat.lt_succ_self n1) ⟨y9,z4,z0c .add .i64 z5 1,⟨(by (conv=>lhs;cbv)<;>(subst hO;rfl)),(by (conv=>lhs;cbv)<;>(subst hO;rfl))⟩,h⟩
 conv=>cbv
 refine⟨(by subst hO;exact Nat.le_refl _),?_⟩
 rw [b]
 exact⟨z3,_,⟨(by subst hO;rfl),(by subst hO;rfl)⟩,h⟩)
theorem dd_p54 (fu:Nat):D_p54 fu:=by
 induction fu with
 | zero=>unfold D_p54;intros;rename_i h;rw [p54] at h;exact h.elim
 | succ n ih =>
  exact (by unfold D_p54;intro K0 L hN x0 x1 x2 x3 h;exact b_p54 n ih L hN (by rw [p54] at h;exact h))
theorem d_p54 (fu:Nat):D_p54 fu:=dd_p54 fu
def D_p34 (fu:Nat):Prop:=∀ {K0:EL→Prop} (L:EL→Nat) (_:L=List.length) {x0:EL} {x1 x2:Int} {x3:ByteArray} {x4 x5:EL} (_:p34 False fu K0 x0 x1 x2 x3 x4 x5),Den Try.prog G0 34 [.ptr [.arr 1 x0 none false (L x0)],.agg [.c (.v (.int .i64 x1)),.c (.v (.int .i64 x2)),.c (.v (.string x3)),.c (.sl 3 x4 none),.c (.sl 5 x5 none)]] (fun r bs=>(∃ (y0:EL) (o1:OV),(r=.tup []∧bs=[.ptr [.arr 1 y0 none false (L y0)],o1])∧K0 y0))
theorem b_p34 (fu:Nat)(ih_p34:D_p34 fu){K0:EL→Prop}(L:EL→Nat)(hN:L=List.length){x0:EL}{x1 x2:Int}{x3:ByteArray}{x4 x5:EL}(h:p34_b False fu (p34 False fu) K0 x0 x1 x2 x3 x4 x5):Den Try.prog G0 34 [.ptr [.arr 1 x0 none false (L x0)],.agg [.c (.v (.int .i64 x1)),.c (.v (.int .i64 x2)),.c (.v (.string x3)),.c (.sl 3 x4 none),.c (.sl 5 x5 none)]] (fun r bs=>(∃ (y0:EL) (o1:OV),(r=.tup []∧bs=[.ptr [.arr 1 y0 none false (L y0)],o1])∧K0 y0)):=by
 obtain⟨O,hO⟩:∃ O,O=std 2 T G0 (Den Try.prog G0):=⟨_,rfl⟩
 have hLO:L=O.len:=by rw [hN,hO];rfl
 subst hLO
 refine den_h hO tiA mixed tabOk (fn:=Try.f34) (sh:=true) (by kernel_rfl) rfl rfl rfl rfl ?_
 intro Q b
 unfold p34_b at h
 conv=>cbv
 have hz:=z1f h
 have k8:=hz.1
 replace h:=hz.2
 clear hz
 refine z0d hO [.ref 1,.shut] (d_p31 fu O.len hN h) ?_
 intro e Q a b
 conv=>cbv
 refine⟨(by subst hO;exact Nat.le_refl _),?_⟩
 refine z1p hO (by subst hO;exact k8) ?_
 conv=>cbv
 refine⟨by subst a hO;rfl,?_⟩
 intro r bs d
 rw [b] at d
 clear a b h
 obtain⟨y1,_,⟨rfl,rfl⟩,h⟩:=d
 conv=>cbv
 refine z0e hO tiA h (by subst hO;rfl) [0,3] [0,4000,1000000] [] (fun tm m=>∃ (j2:EL),((tm=frame 0 57 [(0,.p 0 1 0),(3,.p 4000 2 0)]∧m=⟨[(0,.blk 1 [.t 1000000 2 (O.len j2)]),(4000,.blk 2 [.c (.v (.int .i64 x1)),.c (.v (.int .i64 x2)),.c (.v (.string x3)),.c (.sl 3 x4 none),.c (.sl 5 x5 none)]),(1000000,.arr 2 1 j2 none false)],3⟩))∧p34_3 False fu (p34 False fu) K0 x4 x5 j2) (fun k3 h L hL_3=>?_) (fun k3 h L hL_3=>?_) ?_
 conv=>cbv
 have hz:=z1f h
 have k4:=hz.1
 replace h:=hz.2
 clear hz
 refine z0d hO [.ref 1,.shut] (d_p31 fu O.len hN h) ?_
 intro e Q a b
 conv=>cbv
 refine⟨(by subst hO;exact Nat.le_refl _),?_⟩
 refine z1p hO (by subst hO;exact k4) ?_
 conv=>cbv
 refine⟨by subst a hO;rfl,?_⟩
 intro r bs d
 rw [b] at d
 clear a b h
 obtain⟨y19,_,⟨rfl,rfl⟩,h⟩:=d
 conv=>cbv
 exact hL_3 _ _ ⟨y19,⟨(by (conv=>lhs;cbv)<;>(subst hO;rfl)),(by (conv=>lhs;cbv)<;>(subst hO;rfl))⟩,h⟩
 conv=>cbv
 refine z0e hO tiA h (by subst hO;rfl) [0,3] [0,4000,1000000] [] (fun tm m=>∃ (j20:EL),((tm=frame 0 57 [(0,.p 0 1 0),(3,.p 4000 2 0)]∧m=⟨[(0,.blk 1 [.t 1000000 2 (O.len j20)]),(4000,.blk 2 [.c (.v (.int .i64 x1)),.c (.v (.int .i64 x2)),.c (.v (.string x3)),.c (.sl 3 x4 none),.c (.sl 5 x5 none)]),(1000000,.arr 2 1 j20 none false)],3⟩))∧p34_4 False fu (p34 False fu) K0 x4 x5 j20) (fun k5 h L hL_4=>?_) (fun k5 h L hL_4=>?_) ?_
 conv=>cbv
 have hz:=z1f h
 have k7:=hz.1
 replace h:=hz.2
 clear hz
 refine z0d hO [.ref 1,.shut] (d_p35 fu O.len hN h) ?_
 intro e Q a b
 conv=>cbv
 refine⟨(by subst hO;exact Nat.le_refl _),?_⟩
 refine z1p hO (by subst hO;exact k7) ?_
 conv=>cbv
 refine⟨by subst a hO;rfl,?_⟩
 intro r bs d
 rw [b] at d
 clear a b h
 obtain⟨y21,_,⟨rfl,rfl⟩,h⟩:=d
 conv=>cbv
 have hz:=z1f h
 have k6:=hz.1
 replace h:=hz.2
 clear hz
 refine z0d hO [.ref 1,.shut] (d_p31 fu O.len hN h) ?_
 intro e Q a b
 conv=>cbv
 refine⟨(by subst hO;exact Nat.le_refl _),?_⟩
 refine z1p hO (by subst hO;exact k6) ?_
 conv=>cbv
 refine⟨by subst a hO;rfl,?_⟩
 intro r bs d
 rw [b] at d
 clear a b h
 obtain⟨y22,_,⟨rfl,rfl⟩,h⟩:=d
 conv=>cbv
 exact hL_4 _ _ ⟨y22,⟨(by (conv=>lhs;cbv)<;>(subst hO;rfl)),(by (conv=>lhs;cbv)<;>(subst hO;rfl))⟩,h⟩
 conv=>cbv
 exact hL_4 _ _ ⟨y1,⟨(by (conv=>lhs;cbv)<;>(subst hO;rfl)),(by (conv=>lhs;cbv)<;>(subst hO;rfl))⟩,h⟩
 rintro tm m ⟨j20,hs,h⟩
 unfold p34_4 at h
 obtain⟨rfl,rfl⟩:=hs
 conv=>cbv
 exact hL_3 _ _ ⟨j20,⟨(by (conv=>lhs;cbv)<;>(subst hO;rfl)),(by (conv=>lhs;cbv)<;>(subst hO;rfl))⟩,h⟩
 rintro tm m ⟨j2,hs,h⟩
 unfold p34_3 at h
 obtain⟨rfl,rfl⟩:=hs
 conv=>cbv
 refine z0r hO tiA [0,3,36,37,38] [0,4000,1000000] [] (fun (n:Nat) tm m=>∃ (z3:EL) (z4:Int) (z5:Int),((tm=frame 0 57 [(0,.p 0 1 0),(3,.p 4000 2 0),(36,.c (.sl 3 x4 none)),(37,.c (.v (.int .i64 z4))),(38,.c (.v (.int .i64 z5)))]∧m=⟨[(0,.blk 1 [.t 1000000 2 (O.len z3)]),(4000,.blk 2 [.c (.v (.int .i64 x1)),.c (.v (.int .i64 x2)),.c (.v (.string x3)),.c (.sl 3 x4 none),.c (.sl 5 x5 none)]),(1000000,.arr 2 1 z3 none false)],3⟩))∧p34_2L False fu (p34 False fu) K0 x4 x5 n z3 z4 z5) (fun n=>n) fu ⟨j2,((x4.length:Nat):Int),0,⟨(by (conv=>lhs;cbv)<;>(subst hO;rfl)),(by (conv=>lhs;cbv)<;>(subst hO;rfl))⟩,h⟩ ?_
 rintro n1 tm m L ⟨z3,z4,z5,hs,h⟩ hLn1
 (cases n1 with
 | zero=>rw [p34_2L] at h;exact h.elim
 | succ n1 =>
 rw [p34_2L] at h
 unfold p34_2 at h
 obtain⟨rfl,rfl⟩:=hs
 conv=>cbv
 refine br_h hO h (by subst hO;rfl) (fun k1 h=>?_) (fun k1 h=>?_)
 conv=>cbv
 refine z0b hO ?_
 conv=>cbv
 refine and_h h (fun g=>(by subst hO;exact g)) (fun h=>?_)
 refine and_h h (fun g=>(by subst hO;exact g)) (fun h=>?_)
 obtain⟨c6,c7,c8,hr,h⟩:=z0v h
 refine z1a hO _ (by subst hO;exact hr) ?_
 clear hr
 conv=>cbv
 refine z0d hO [.ref 1,.shut] (d_p54 fu O.len hN h) ?_
 intro e Q a b
 conv=>cbv
 refine⟨(by subst hO;exact Nat.le_refl _),?_⟩
 refine⟨by subst a hO;rfl,?_⟩
 intro r bs d
 rw [b] at d
 clear a b h
 obtain⟨y9,_,⟨rfl,rfl⟩,h⟩:=d
 conv=>cbv
 exact hLn1 n1 _ _ (Nat.lt_succ_self n1) ⟨y9,z4,z0c .add .i64 z5 1,⟨(by (conv=>lhs;cbv)<;>(subst hO;rfl)),(by (conv=>lhs;cbv)<;>(subst hO;rfl))⟩,h⟩
 conv=>cbv
 refine z0r hO tiA [0,47,48,49] [0,1000000] [] (fun (n:Nat) tm m=>∃ (z10:EL) (z11:Int) (z12:Int),((tm=frame 0 57 [(0,.p 0 1 0),(47,.c (.sl 5 x5 none)),(48,.c (.v (.int .i64 z11))),(49,.c (.v (.int .i64 z12)))]∧m=⟨[(0,.blk 1 [.t 1000000 2 (O.len z10)]),(1000000,.arr 2 1 z10 none false)],3⟩))∧p34_1L False fu (p34 False fu) K0 x5 n z10 z11 z12) (fun n=>n) fu ⟨z3,((x5.length:Nat):Int),0,⟨(by (conv=>lhs;cbv)<;>(subst hO;rfl)),(by (conv=>lhs;cbv)<;>(subst hO;rfl))⟩,h⟩ ?_
 rintro n2 tm m L ⟨z10,z11,z12,hs,h⟩ hLn2
 (cases n2 with
 | zero=>rw [p34_1L] at h;exact h.elim
 | succ n2 =>
 rw [p34_1L] at h
 unfold p34_1 at h
 obtain⟨rfl,rfl⟩:=hs
 conv=>cbv
 refine br_h hO h (by subst hO;rfl) (fun k2 h=>?_) (fun k2 h=>?_)
 conv=>cbv
 refine z0b hO ?_
 conv=>cbv
 refine and_h h (fun g=>(by subst hO;exact g)) (fun h=>?_)
 refine and_h h (fun g=>(by subst hO;exact g)) (fun h=>?_)
 obtain⟨c13,c14,c15,c16,c17,hr,h⟩:=z0s h
 refine z1a hO _ (by subst hO;exact hr) ?_
 clear hr
 conv=>cbv
 refine z0d hO [.ref 1,.shut] (ih_p34 O.len hN h) ?_
 intro e Q a b
 conv=>cbv
 refine⟨(by subst hO;exact Nat.le_refl _),?_⟩
 refine⟨by subst a hO;rfl,?_⟩
 intro r bs d
 rw [b] at d
 clear a b h
 obtain⟨y18,_,⟨rfl,rfl⟩,h⟩:=d
 conv=>cbv
 exact hLn2 n2 _ _ (Nat.lt_succ_self n2) ⟨y18,z11,z0c .add .i64 z12 1,⟨(by (conv=>lhs;cbv)<;>(subst hO;rfl)),(by (conv=>lhs;cbv)<;>(subst hO;rfl))⟩,h⟩
 conv=>cbv
 refine⟨(by subst hO;exact Nat.le_refl _),?_⟩
 rw [b]
 exact⟨z10,_,⟨(by subst hO;rfl),(by subst hO;rfl)⟩,h⟩))
theorem dd_p34 (fu:Nat):D_p34 fu:=by
 induction fu with
 | zero=>unfold D_p34;intros;rename_i h;rw [p34] at h;exact h.elim
 | succ n ih =>
  exact (by unfold D_p34;intro K0 L hN x0 x1 x2 x3 x4 x5 h;exact b_p34 n ih L hN (by rw [p34] at h;exact h))
theorem d_p34 (fu:Nat):D_p34 fu:=dd_p34 fu
theorem d_p33 (fu:Nat){K0:EL→Prop}(L:EL→Nat)(hN:L=List.length){x0:EL}{x1 x2 x3:Int}{x4 x5:ByteArray}{x6 x7:Int}{x8:ByteArray}{x9 x10:EL}{x11 x12:Int}{x13:ByteArray}{x14 x15 x16:EL}(h:p33 False fu K0 x0 x1 x2 x3 x4 x5 x6 x7 x8 x9 x10 x11 x12 x13 x14 x15 x16):Den Try.prog G0 33 [.ptr [.arr 1 x0 none false (L x0)],.agg [.c (.v (.int .i64 x1)),.c (.v (.int .i64 x2)),.c (.v (.int .i64 x3)),.c (.v (.string x4)),.c (.v (.string x5)),.c (.v (.int .i64 x6)),.c (.v (.int .i64 x7)),.c (.v (.string x8)),.c (.sl 3 x9 none),.c (.sl 5 x10 none),.c (.v (.int .i64 x11)),.c (.v (.int .i64 x12)),.c (.v (.string x13)),.c (.sl 3 x14 none),.c (.sl 5 x15 none),.c (.sl 6 x16 none)]] (fun r bs=>(∃ (y0:EL) (o1:OV),(r=.tup []∧bs=[.ptr [.arr 1 y0 none false (L y0)],o1])∧K0 y0)):=by
 obtain⟨O,hO⟩:∃ O,O=std 2 T G0 (Den Try.prog G0):=⟨_,rfl⟩
 have hLO:L=O.len:=by rw [hN,hO];rfl
 subst hLO
 refine den_h hO tiA mixed tabOk (fn:=Try.f33) (sh:=true) (by kernel_rfl) rfl rfl rfl rfl ?_
 intro Q b
 unfold p33 at h
 conv=>cbv
 have hz:=z1f h
 have k9:=hz.1
 replace h:=hz.2
 clear hz
 refine z0d hO [.ref 1,.shut] (d_p31 fu O.len hN h) ?_
 intro e Q a b
 conv=>cbv
 refine⟨(by subst hO;exact Nat.le_refl _),?_⟩
 refine z1p hO (by subst hO;exact k9) ?_
 conv=>cbv
 refine⟨by subst a hO;rfl,?_⟩
 intro r bs d
 rw [b] at d
 clear a b h
 obtain⟨y1,_,⟨rfl,rfl⟩,h⟩:=d
 conv=>cbv
 have hz:=z1f h
 have k8:=hz.1
 replace h:=hz.2
 clear hz
 refine z0d hO [.ref 1,.shut] (d_p35 fu O.len hN h) ?_
 intro e Q a b
 conv=>cbv
 refine⟨(by subst hO;exact Nat.le_refl _),?_⟩
 refine z1p hO (by subst hO;exact k8) ?_
 conv=>cbv
 refine⟨by subst a hO;rfl,?_⟩
 intro r bs d
 rw [b] at d
 clear a b h
 obtain⟨y2,_,⟨rfl,rfl⟩,h⟩:=d
 conv=>cbv
 have hz:=z1f h
 have k7:=hz.1
 replace h:=hz.2
 clear hz
 refine z0d hO [.ref 1,.shut] (d_p35 fu O.len hN h) ?_
 intro e Q a b
 conv=>cbv
 refine⟨(by subst hO;exact Nat.le_refl _),?_⟩
 refine z1p hO (by subst hO;exact k7) ?_
 conv=>cbv
 refine⟨by subst a hO;rfl,?_⟩
 intro r bs d
 rw [b] at d
 clear a b h
 obtain⟨y3,_,⟨rfl,rfl⟩,h⟩:=d
 conv=>cbv
 refine z0d hO [.ref 1,.shut] (d_p34 fu O.len hN h) ?_
 intro e Q a b
 conv=>cbv
 refine⟨(by subst hO;exact Nat.le_refl _),?_⟩
 refine⟨by subst a hO;rfl,?_⟩
 intro r bs d
 rw [b] at d
 clear a b h
 obtain⟨y4,_,⟨rfl,rfl⟩,h⟩:=d
 conv=>cbv
 refine z0e hO tiA h (by subst hO;rfl) [0,3] [0,4000,1000000] [] (fun tm m=>∃ (j5:EL),((tm=frame 0 65 [(0,.p 0 1 0),(3,.p 4000 2 0)]∧m=⟨[(0,.blk 1 [.t 1000000 2 (O.len j5)]),(4000,.blk 2 [.c (.v (.int .i64 x1)),.c (.v (.int .i64 x2)),.c (.v (.int .i64 x3)),.c (.v (.string x4)),.c (.v (.string x5)),.c (.v (.int .i64 x6)),.c (.v (.int .i64 x7)),.c (.v (.string x8)),.c (.sl 3 x9 none),.c (.sl 5 x10 none),.c (.v (.int .i64 x11)),.c (.v (.int .i64 x12)),.c (.v (.string x13)),.c (.sl 3 x14 none),.c (.sl 5 x15 none),.c (.sl 6 x16 none)]),(1000000,.arr 2 1 j5 none false)],3⟩))∧p33_2 False fu K0 x16 j5) (fun k4 h L hL_2=>?_) (fun k4 h L hL_2=>?_) ?_
 conv=>cbv
 have hz:=z1f h
 have k5:=hz.1
 replace h:=hz.2
 clear hz
 refine z0d hO [.ref 1,.shut] (d_p31 fu O.len hN h) ?_
 intro e Q a b
 conv=>cbv
 refine⟨(by subst hO;exact Nat.le_refl _),?_⟩
 refine z1p hO (by subst hO;exact k5) ?_
 conv=>cbv
 refine⟨by subst a hO;rfl,?_⟩
 intro r bs d
 rw [b] at d
 clear a b h
 obtain⟨y18,_,⟨rfl,rfl⟩,h⟩:=d
 conv=>cbv
 refine z0d hO [.ref 1,.shut] (d_p34 fu O.len hN h) ?_
 intro e Q a b
 conv=>cbv
 refine⟨(by subst hO;exact Nat.le_refl _),?_⟩
 refine⟨by subst a hO;rfl,?_⟩
 intro r bs d
 rw [b] at d
 clear a b h
 obtain⟨y19,_,⟨rfl,rfl⟩,h⟩:=d
 conv=>cbv
 exact hL_2 _ _ ⟨y19,⟨(by (conv=>lhs;cbv)<;>(subst hO;rfl)),(by (conv=>lhs;cbv)<;>(subst hO;rfl))⟩,h⟩
 conv=>cbv
 have hz:=z1f h
 have k6:=hz.1
 replace h:=hz.2
 clear hz
 refine z0d hO [.ref 1,.shut] (d_p31 fu O.len hN h) ?_
 intro e Q a b
 conv=>cbv
 refine⟨(by subst hO;exact Nat.le_refl _),?_⟩
 refine z1p hO (by subst hO;exact k6) ?_
 conv=>cbv
 refine⟨by subst a hO;rfl,?_⟩
 intro r bs d
 rw [b] at d
 clear a b h
 obtain⟨y20,_,⟨rfl,rfl⟩,h⟩:=d
 conv=>cbv
 exact hL_2 _ _ ⟨y20,⟨(by (conv=>lhs;cbv)<;>(subst hO;rfl)),(by (conv=>lhs;cbv)<;>(subst hO;rfl))⟩,h⟩
 rintro tm m ⟨j5,hs,h⟩
 unfold p33_2 at h
 obtain⟨rfl,rfl⟩:=hs
 conv=>cbv
 have hz:=z1f h
 have k3:=hz.1
 replace h:=hz.2
 clear hz
 refine z0d hO [.ref 1,.shut] (d_p31 fu O.len hN h) ?_
 intro e Q a b
 conv=>cbv
 refine⟨(by subst hO;exact Nat.le_refl _),?_⟩
 refine z1p hO (by subst hO;exact k3) ?_
 conv=>cbv
 refine⟨by subst a hO;rfl,?_⟩
 intro r bs d
 rw [b] at d
 clear a b h
 obtain⟨y6,_,⟨rfl,rfl⟩,h⟩:=d
 conv=>cbv
 refine z0r hO tiA [0,49,50,51] [0,1000000] [] (fun (n:Nat) tm m=>∃ (z7:EL) (z8:Int) (z9:Int),((tm=frame 0 65 [(0,.p 0 1 0),(49,.c (.sl 6 x16 none)),(50,.c (.v (.int .i64 z8))),(51,.c (.v (.int .i64 z9)))]∧m=⟨[(0,.blk 1 [.t 1000000 2 (O.len z7)]),(1000000,.arr 2 1 z7 none false)],3⟩))∧p33_1L False fu K0 x16 n z7 z8 z9) (fun n=>n) fu ⟨y6,((x16.length:Nat):Int),0,⟨(by (conv=>lhs;cbv)<;>(subst hO;rfl)),(by (conv=>lhs;cbv)<;>(subst hO;rfl))⟩,h⟩ ?_
 rintro n1 tm m L ⟨z7,z8,z9,hs,h⟩ hLn1
 (cases n1 with
 | zero=>rw [p33_1L] at h;exact h.elim
 | succ n1 =>
 rw [p33_1L] at h
 unfold p33_1 at h
 obtain⟨rfl,rfl⟩:=hs
 conv=>cbv
 refine br_h hO h (by subst hO;rfl) (fun k1 h=>?_) (fun k1 h=>?_)
 conv=>cbv
 refine z0b hO ?_
 conv=>cbv
 refine and_h h (fun g=>(by subst hO;exact g)) (fun h=>?_)
 refine and_h h (fun g=>(by subst hO;exact g)) (fun h=>?_)
 obtain⟨c10,c11,c12,c13,c14,c15,hr,h⟩:=z0x h
 refine z1a hO _ (by subst hO;exact hr) ?_
 clear hr
 conv=>cbv
 have hz:=z1f h
 have k2:=hz.1
 replace h:=hz.2
 clear hz
 refine z0d hO [.ref 1,.shut] (d_p35 fu O.len hN h) ?_
 intro e Q a b
 conv=>cbv
 refine⟨(by subst hO;exact Nat.le_refl _),?_⟩
 refine z1p hO (by subst hO;exact k2) ?_
 conv=>cbv
 refine⟨by subst a hO;rfl,?_⟩
 intro r bs d
 rw [b] at d
 clear a b h
 obtain⟨y16,_,⟨rfl,rfl⟩,h⟩:=d
 conv=>cbv
 refine z0d hO [.ref 1,.shut] (d_p34 fu O.len hN h) ?_
 intro e Q a b
 conv=>cbv
 refine⟨(by subst hO;exact Nat.le_refl _),?_⟩
 refine⟨by subst a hO;rfl,?_⟩
 intro r bs d
 rw [b] at d
 clear a b h
 obtain⟨y17,_,⟨rfl,rfl⟩,h⟩:=d
 conv=>cbv
 exact hLn1 n1 _ _ (Nat.lt_succ_self n1) ⟨y17,z8,z0c .add .i64 z9 1,⟨(by (conv=>lhs;cbv)<;>(subst hO;rfl)),(by (conv=>lhs;cbv)<;>(subst hO;rfl))⟩,h⟩
 conv=>cbv
 refine⟨(by subst hO;exact Nat.le_refl _),?_⟩
 rw [b]
 exact⟨z7,_,⟨(by subst hO;rfl),(by subst hO;rfl)⟩,h⟩)
theorem d_p11 (fu:Nat){K0:EL→Int→Prop}(L:EL→Nat)(hN:L=List.length){x0:EL}{x1 x2 x3 x4 x5 x6 x7 x8 x9 x10 x11:Int}{x12 x13:ByteArray}{x14 x15:Int}{x16:ByteArray}{x17 x18:EL}{x19 x20:Int}{x21:ByteArray}{x22 x23 x24:EL}{x25 x26:Int}{x27:ByteArray}{x28 x29:EL}{x30 x31:Int}{x32:ByteArray}{x33 x34:EL}(h:p11 False fu K0 x0 x1 x2 x3 x4 x5 x6 x7 x8 x9 x10 x11 x12 x13 x14 x15 x16 x17 x18 x19 x20 x21 x22 x23 x24 x25 x26 x27 x28 x29 x30 x31 x32 x33 x34):Den Try.prog G0 11 [.c (.sl 1 x0 none),.agg [.c (.v (.int .i64 x1)),.c (.v (.int .i64 x2)),.c (.v (.int .i64 x3)),.c (.v (.int .i64 x4)),.c (.v (.int .u64 x5)),.c (.v (.int .u64 x6)),.c (.v (.int .u64 x7)),.c (.v (.int .u64 x8)),.c (.v (.int .i64 x9)),.c (.v (.int .i64 x10)),.c (.v (.int .i64 x11)),.c (.v (.string x12)),.c (.v (.string x13)),.c (.v (.int .i64 x14)),.c (.v (.int .i64 x15)),.c (.v (.string x16)),.c (.sl 3 x17 none),.c (.sl 5 x18 none),.c (.v (.int .i64 x19)),.c (.v (.int .i64 x20)),.c (.v (.string x21)),.c (.sl 3 x22 none),.c (.sl 5 x23 none),.c (.sl 6 x24 none),.c (.v (.int .i64 x25)),.c (.v (.int .i64 x26)),.c (.v (.string x27)),.c (.sl 3 x28 none),.c (.sl 5 x29 none),.c (.v (.int .i64 x30)),.c (.v (.int .i64 x31)),.c (.v (.string x32)),.c (.sl 3 x33 none),.c (.sl 5 x34 none)]] (fun r bs=>(∃ (y0:EL) (y1:Int) (o0 o1:OV),(r=.tup [.c (.sl 1 y0 none),.c (.v (.int .i64 y1))]∧bs=[o0,o1])∧K0 y0 y1)):=by
 obtain⟨O,hO⟩:∃ O,O=std 0 T G0 (Den Try.prog G0):=⟨_,rfl⟩
 have hLO:L=O.len:=by rw [hN,hO];rfl
 subst hLO
 refine den_h hO tiA mixed tabOk (fn:=Try.f11) (sh:=true) (by kernel_rfl) rfl rfl rfl rfl ?_
 intro Q b
 unfold p11 at h
 conv=>cbv
 refine z0d hO [.shut] (d_p12 fu O.len hN h) ?_
 intro e Q a b
 conv=>cbv
 refine⟨by subst a hO;rfl,?_⟩
 intro r bs d
 rw [b] at d
 clear a b h
 obtain⟨y1,_,⟨rfl,rfl⟩,h⟩:=d
 conv=>cbv
 refine br_h hO h (by subst hO;rfl) (fun k1 h=>?_) (fun k1 h=>?_)
 conv=>cbv
 rw [b]
 exact⟨nilE,1,_,_,⟨(by subst hO;rfl),(by subst hO;rfl)⟩,h⟩
 conv=>cbv
 refine z0b hO ?_
 conv=>cbv
 refine z0d hO [.shut] (d_p14 fu O.len hN h) ?_
 intro e Q a b
 conv=>cbv
 refine⟨by subst a hO;rfl,?_⟩
 intro r bs d
 rw [b] at d
 clear a b h
 obtain⟨y2,y3,y4,y5,y6,y7,y8,y9,y10,_,⟨rfl,rfl⟩,h⟩:=d
 conv=>cbv
 refine z0d hO [.shut] (d_p30 fu O.len hN h) ?_
 intro e Q a b
 conv=>cbv
 refine⟨by subst a hO;rfl,?_⟩
 intro r bs d
 rw [b] at d
 clear a b h
 obtain⟨y11,_,⟨rfl,rfl⟩,h⟩:=d
 conv=>cbv
 have hz:=z1f h
 have k14:=hz.1
 replace h:=hz.2
 clear hz
 refine z0d hO [.ref 1,.shut] (d_p31 fu O.len hN h) ?_
 intro e Q a b
 conv=>cbv
 refine⟨(by subst hO;exact Nat.le_refl _),?_⟩
 refine z1p hO (by subst hO;exact k14) ?_
 conv=>cbv
 refine⟨by subst a hO;rfl,?_⟩
 intro r bs d
 rw [b] at d
 clear a b h
 obtain⟨y12,_,⟨rfl,rfl⟩,h⟩:=d
 conv=>cbv
 refine z0e hO tiA h (by subst hO;rfl) [0,3,6,8] [8888888] [] (fun tm m=>∃ (j13:EL),((tm=frame 0 104 [(0,.c (.sl 1 x0 none)),(3,.p 500 0 0),(6,.p 501 0 0),(8,.p 502 0 0)]∧m=⟨[(500,.blk 0 [.c (.v (.int .i64 x1)),.c (.v (.int .i64 x2)),.c (.v (.int .i64 x3)),.c (.v (.int .i64 x4)),.c (.v (.int .u64 x5)),.c (.v (.int .u64 x6)),.c (.v (.int .u64 x7)),.c (.v (.int .u64 x8)),.c (.v (.int .i64 x9)),.c (.v (.int .i64 x10)),.c (.v (.int .i64 x11)),.c (.v (.string x12)),.c (.v (.string x13)),.c (.v (.int .i64 x14)),.c (.v (.int .i64 x15)),.c (.v (.string x16)),.c (.sl 3 x17 none),.c (.sl 5 x18 none),.c (.v (.int .i64 x19)),.c (.v (.int .i64 x20)),.c (.v (.string x21)),.c (.sl 3 x22 none),.c (.sl 5 x23 none),.c (.sl 6 x24 none),.c (.v (.int .i64 x25)),.c (.v (.int .i64 x26)),.c (.v (.string x27)),.c (.sl 3 x28 none),.c (.sl 5 x29 none),.c (.v (.int .i64 x30)),.c (.v (.int .i64 x31)),.c (.v (.string x32)),.c (.sl 3 x33 none),.c (.sl 5 x34 none)]),(501,.blk 0 [.c (.v (.bool y2)),.c (.v (.bool y3)),.c (.v (.bool y4)),.c (.v (.bool y5)),.c (.v (.bool y6)),.c (.v (.bool y7)),.c (.v (.bool y8)),.c (.v (.bool y9))]),(502,.blk 0 [.t 503 0 (O.len j13)]),(503,.arr 0 1 j13 none false)],1⟩))∧p11_8 False fu K0 x0 x2 x5 x6 x7 x8 x9 x10 x11 x12 x13 x14 x15 x16 x17 x18 x19 x20 x21 x22 x23 x24 x25 x26 x27 x28 x29 x30 x31 x32 x33 x34 y3 y4 y5 y6 y7 y8 y9 j13) (fun k12 h L hL_8=>?_) (fun k12 h L hL_8=>?_) ?_
 conv=>cbv
 have hz:=z1f h
 have k13:=hz.1
 replace h:=hz.2
 clear hz
 refine z0d hO [.ref 1,.shut] (d_p31 fu O.len hN h) ?_
 intro e Q a b
 conv=>cbv
 refine⟨(by subst hO;exact Nat.le_refl _),?_⟩
 refine z1p hO (by subst hO;exact k13) ?_
 conv=>cbv
 refine⟨by subst a hO;rfl,?_⟩
 intro r bs d
 rw [b] at d
 clear a b h
 obtain⟨y28,_,⟨rfl,rfl⟩,h⟩:=d
 conv=>cbv
 exact hL_8 _ _ ⟨y28,⟨(by (conv=>lhs;cbv)<;>(subst hO;rfl)),(by (conv=>lhs;cbv)<;>(subst hO;rfl))⟩,h⟩
 conv=>cbv
 exact hL_8 _ _ ⟨y12,⟨(by (conv=>lhs;cbv)<;>(subst hO;rfl)),(by (conv=>lhs;cbv)<;>(subst hO;rfl))⟩,h⟩
 rintro tm m ⟨j13,hs,h⟩
 unfold p11_8 at h
 obtain⟨rfl,rfl⟩:=hs
 conv=>cbv
 refine z0e hO tiA h (by subst hO;rfl) [0,3,6,8] [8888888] [] (fun tm m=>∃ (j14:EL),((tm=frame 0 104 [(0,.c (.sl 1 x0 none)),(3,.p 500 0 0),(6,.p 501 0 0),(8,.p 502 0 0)]∧m=⟨[(500,.blk 0 [.c (.v (.int .i64 x1)),.c (.v (.int .i64 x2)),.c (.v (.int .i64 x3)),.c (.v (.int .i64 x4)),.c (.v (.int .u64 x5)),.c (.v (.int .u64 x6)),.c (.v (.int .u64 x7)),.c (.v (.int .u64 x8)),.c (.v (.int .i64 x9)),.c (.v (.int .i64 x10)),.c (.v (.int .i64 x11)),.c (.v (.string x12)),.c (.v (.string x13)),.c (.v (.int .i64 x14)),.c (.v (.int .i64 x15)),.c (.v (.string x16)),.c (.sl 3 x17 none),.c (.sl 5 x18 none),.c (.v (.int .i64 x19)),.c (.v (.int .i64 x20)),.c (.v (.string x21)),.c (.sl 3 x22 none),.c (.sl 5 x23 none),.c (.sl 6 x24 none),.c (.v (.int .i64 x25)),.c (.v (.int .i64 x26)),.c (.v (.string x27)),.c (.sl 3 x28 none),.c (.sl 5 x29 none),.c (.v (.int .i64 x30)),.c (.v (.int .i64 x31)),.c (.v (.string x32)),.c (.sl 3 x33 none),.c (.sl 5 x34 none)]),(501,.blk 0 [.c (.v (.bool y2)),.c (.v (.bool y3)),.c (.v (.bool y4)),.c (.v (.bool y5)),.c (.v (.bool y6)),.c (.v (.bool y7)),.c (.v (.bool y8)),.c (.v (.bool y9))]),(502,.blk 0 [.t 503 0 (O.len j14)]),(503,.arr 0 1 j14 none false)],1⟩))∧p11_7 False fu K0 x0 x2 x7 x8 x9 x10 x11 x12 x13 x14 x15 x16 x17 x18 x19 x20 x21 x22 x23 x24 x25 x26 x27 x28 x29 x30 x31 x32 x33 x34 y4 y5 y6 y7 y8 y9 j14) (fun k11 h L hL_7=>?_) (fun k11 h L hL_7=>?_) ?_
 conv=>cbv
 refine z0o hO tiA [[],[],[]] [(0,true,false),(1,true,false),(2,true,false),(3,true,false),(4,true,false),(5,true,false),(6,true,false),(7,false,true),(8,true,true),(9,true,true),(10,false,true)] (by kernel_rfl) ?_
 conv=>cbv
 refine z0d hO [.shut,.shut] (d_p32 fu O.len hN h) ?_
 intro e Q a b
 conv=>cbv
 refine z0k hO ?_
 conv=>cbv
 refine⟨by subst a hO;rfl,?_⟩
 intro r bs d
 rw [b] at d
 clear a b h
 obtain⟨y27,_,_,⟨rfl,rfl⟩,h⟩:=d
 conv=>cbv
 refine z0b hO ?_
 conv=>cbv
 exact hL_7 _ _ ⟨y27,⟨(by (conv=>lhs;cbv)<;>(subst hO;rfl)),(by (conv=>lhs;cbv)<;>(subst hO;rfl))⟩,h⟩
 conv=>cbv
 exact hL_7 _ _ ⟨j13,⟨(by (conv=>lhs;cbv)<;>(subst hO;rfl)),(by (conv=>lhs;cbv)<;>(subst hO;rfl))⟩,h⟩
 rintro tm m ⟨j14,hs,h⟩
 unfold p11_7 at h
 obtain⟨rfl,rfl⟩:=hs
 conv=>cbv
 refine z0e hO tiA h (by subst hO;rfl) [0,3,6,8] [8888888] [] (fun tm m=>∃ (j15:EL),((tm=frame 0 104 [(0,.c (.sl 1 x0 none)),(3,.p 500 0 0),(6,.p 501 0 0),(8,.p 502 0 0)]∧m=⟨[(500,.blk 0 [.c (.v (.int .i64 x1)),.c (.v (.int .i64 x2)),.c (.v (.int .i64 x3)),.c (.v (.int .i64 x4)),.c (.v (.int .u64 x5)),.c (.v (.int .u64 x6)),.c (.v (.int .u64 x7)),.c (.v (.int .u64 x8)),.c (.v (.int .i64 x9)),.c (.v (.int .i64 x10)),.c (.v (.int .i64 x11)),.c (.v (.string x12)),.c (.v (.string x13)),.c (.v (.int .i64 x14)),.c (.v (.int .i64 x15)),.c (.v (.string x16)),.c (.sl 3 x17 none),.c (.sl 5 x18 none),.c (.v (.int .i64 x19)),.c (.v (.int .i64 x20)),.c (.v (.string x21)),.c (.sl 3 x22 none),.c (.sl 5 x23 none),.c (.sl 6 x24 none),.c (.v (.int .i64 x25)),.c (.v (.int .i64 x26)),.c (.v (.string x27)),.c (.sl 3 x28 none),.c (.sl 5 x29 none),.c (.v (.int .i64 x30)),.c (.v (.int .i64 x31)),.c (.v (.string x32)),.c (.sl 3 x33 none),.c (.sl 5 x34 none)]),(501,.blk 0 [.c (.v (.bool y2)),.c (.v (.bool y3)),.c (.v (.bool y4)),.c (.v (.bool y5)),.c (.v (.bool y6)),.c (.v (.bool y7)),.c (.v (.bool y8)),.c (.v (.bool y9))]),(502,.blk 0 [.t 503 0 (O.len j15)]),(503,.arr 0 1 j15 none false)],1⟩))∧p11_6 False fu K0 x0 x2 x9 x10 x11 x12 x13 x14 x15 x16 x17 x18 x19 x20 x21 x22 x23 x24 x25 x26 x27 x28 x29 x30 x31 x32 x33 x34 y5 y6 y7 y8 y9 j15) (fun k10 h L hL_6=>?_) (fun k10 h L hL_6=>?_) ?_
 conv=>cbv
 refine z0o hO tiA [[],[],[]] [(0,true,false),(1,true,false),(2,true,false),(3,true,false),(4,true,false),(5,true,false),(6,true,false),(7,false,true),(8,true,true),(9,true,true),(10,false,true)] (by kernel_rfl) ?_
 conv=>cbv
 refine z0d hO [.shut,.shut] (d_p32 fu O.len hN h) ?_
 intro e Q a b
 conv=>cbv
 refine z0k hO ?_
 conv=>cbv
 refine⟨by subst a hO;rfl,?_⟩
 intro r bs d
 rw [b] at d
 clear a b h
 obtain⟨y26,_,_,⟨rfl,rfl⟩,h⟩:=d
 conv=>cbv
 refine z0b hO ?_
 conv=>cbv
 exact hL_6 _ _ ⟨y26,⟨(by (conv=>lhs;cbv)<;>(subst hO;rfl)),(by (conv=>lhs;cbv)<;>(subst hO;rfl))⟩,h⟩
 conv=>cbv
 exact hL_6 _ _ ⟨j14,⟨(by (conv=>lhs;cbv)<;>(subst hO;rfl)),(by (conv=>lhs;cbv)<;>(subst hO;rfl))⟩,h⟩
 rintro tm m ⟨j15,hs,h⟩
 unfold p11_6 at h
 obtain⟨rfl,rfl⟩:=hs
 conv=>cbv
 refine z0e hO tiA h (by subst hO;rfl) [0,3,6,8] [8888888] [] (fun tm m=>∃ (j16:EL),((tm=frame 0 104 [(0,.c (.sl 1 x0 none)),(3,.p 500 0 0),(6,.p 501 0 0),(8,.p 502 0 0)]∧m=⟨[(500,.blk 0 [.c (.v (.int .i64 x1)),.c (.v (.int .i64 x2)),.c (.v (.int .i64 x3)),.c (.v (.int .i64 x4)),.c (.v (.int .u64 x5)),.c (.v (.int .u64 x6)),.c (.v (.int .u64 x7)),.c (.v (.int .u64 x8)),.c (.v (.int .i64 x9)),.c (.v (.int .i64 x10)),.c (.v (.int .i64 x11)),.c (.v (.string x12)),.c (.v (.string x13)),.c (.v (.int .i64 x14)),.c (.v (.int .i64 x15)),.c (.v (.string x16)),.c (.sl 3 x17 none),.c (.sl 5 x18 none),.c (.v (.int .i64 x19)),.c (.v (.int .i64 x20)),.c (.v (.string x21)),.c (.sl 3 x22 none),.c (.sl 5 x23 none),.c (.sl 6 x24 none),.c (.v (.int .i64 x25)),.c (.v (.int .i64 x26)),.c (.v (.string x27)),.c (.sl 3 x28 none),.c (.sl 5 x29 none),.c (.v (.int .i64 x30)),.c (.v (.int .i64 x31)),.c (.v (.string x32)),.c (.sl 3 x33 none),.c (.sl 5 x34 none)]),(501,.blk 0 [.c (.v (.bool y2)),.c (.v (.bool y3)),.c (.v (.bool y4)),.c (.v (.bool y5)),.c (.v (.bool y6)),.c (.v (.bool y7)),.c (.v (.bool y8)),.c (.v (.bool y9))]),(502,.blk 0 [.t 503 0 (O.len j16)]),(503,.arr 0 1 j16 none false)],1⟩))∧p11_5 False fu K0 x0 x2 x12 x25 x26 x27 x28 x29 x30 x31 x32 x33 x34 y6 y7 y8 y9 j16) (fun k9 h L hL_5=>?_) (fun k9 h L hL_5=>?_) ?_
 conv=>cbv
 refine z0d hO [.ref 1,.shut] (d_p33 fu O.len hN h) ?_
 intro e Q a b
 conv=>cbv
 refine⟨(by subst hO;exact Nat.le_refl _),?_⟩
 refine⟨by subst a hO;rfl,?_⟩
 intro r bs d
 rw [b] at d
 clear a b h
 obtain⟨y25,_,⟨rfl,rfl⟩,h⟩:=d
 conv=>cbv
 exact hL_5 _ _ ⟨y25,⟨(by (conv=>lhs;cbv)<;>(subst hO;rfl)),(by (conv=>lhs;cbv)<;>(subst hO;rfl))⟩,h⟩
 conv=>cbv
 exact hL_5 _ _ ⟨j15,⟨(by (conv=>lhs;cbv)<;>(subst hO;rfl)),(by (conv=>lhs;cbv)<;>(subst hO;rfl))⟩,h⟩
 rintro tm m ⟨j16,hs,h⟩
 unfold p11_5 at h
 obtain⟨rfl,rfl⟩:=hs
 conv=>cbv
 refine z0e hO tiA h (by subst hO;rfl) [0,3,6,8] [8888888] [] (fun tm m=>∃ (j17:EL),((tm=frame 0 104 [(0,.c (.sl 1 x0 none)),(3,.p 500 0 0),(6,.p 501 0 0),(8,.p 502 0 0)]∧m=⟨[(500,.blk 0 [.c (.v (.int .i64 x1)),.c (.v (.int .i64 x2)),.c (.v (.int .i64 x3)),.c (.v (.int .i64 x4)),.c (.v (.int .u64 x5)),.c (.v (.int .u64 x6)),.c (.v (.int .u64 x7)),.c (.v (.int .u64 x8)),.c (.v (.int .i64 x9)),.c (.v (.int .i64 x10)),.c (.v (.int .i64 x11)),.c (.v (.string x12)),.c (.v (.string x13)),.c (.v (.int .i64 x14)),.c (.v (.int .i64 x15)),.c (.v (.string x16)),.c (.sl 3 x17 none),.c (.sl 5 x18 none),.c (.v (.int .i64 x19)),.c (.v (.int .i64 x20)),.c (.v (.string x21)),.c (.sl 3 x22 none),.c (.sl 5 x23 none),.c (.sl 6 x24 none),.c (.v (.int .i64 x25)),.c (.v (.int .i64 x26)),.c (.v (.string x27)),.c (.sl 3 x28 none),.c (.sl 5 x29 none),.c (.v (.int .i64 x30)),.c (.v (.int .i64 x31)),.c (.v (.string x32)),.c (.sl 3 x33 none),.c (.sl 5 x34 none)]),(501,.blk 0 [.c (.v (.bool y2)),.c (.v (.bool y3)),.c (.v (.bool y4)),.c (.v (.bool y5)),.c (.v (.bool y6)),.c (.v (.bool y7)),.c (.v (.bool y8)),.c (.v (.bool y9))]),(502,.blk 0 [.t 503 0 (O.len j17)]),(503,.arr 0 1 j17 none false)],1⟩))∧p11_4 False fu K0 x0 x12 x25 x26 x27 x28 x29 x30 x31 x32 x33 x34 y7 y8 y9 j17) (fun k7 h L hL_4=>?_) (fun k7 h L hL_4=>?_) ?_
 conv=>cbv
 have hz:=z1f h
 have k8:=hz.1
 replace h:=hz.2
 clear hz
 refine z0d hO [.ref 1,.shut] (d_p31 fu O.len hN h) ?_
 intro e Q a b
 conv=>cbv
 refine⟨(by subst hO;exact Nat.le_refl _),?_⟩
 refine z1p hO (by subst hO;exact k8) ?_
 conv=>cbv
 refine⟨by subst a hO;rfl,?_⟩
 intro r bs d
 rw [b] at d
 clear a b h
 obtain⟨y24,_,⟨rfl,rfl⟩,h⟩:=d
 conv=>cbv
 exact hL_4 _ _ ⟨y24,⟨(by (conv=>lhs;cbv)<;>(subst hO;rfl)),(by (conv=>lhs;cbv)<;>(subst hO;rfl))⟩,h⟩
 conv=>cbv
 exact hL_4 _ _ ⟨j16,⟨(by (conv=>lhs;cbv)<;>(subst hO;rfl)),(by (conv=>lhs;cbv)<;>(subst hO;rfl))⟩,h⟩
 rintro tm m ⟨j17,hs,h⟩
 unfold p11_4 at h
 obtain⟨rfl,rfl⟩:=hs
 conv=>cbv
 refine z0e hO tiA h (by subst hO;rfl) [0,3,6,8] [8888888] [] (fun tm m=>∃ (j18:EL),((tm=frame 0 104 [(0,.c (.sl 1 x0 none)),(3,.p 500 0 0),(6,.p 501 0 0),(8,.p 502 0 0)]∧m=⟨[(500,.blk 0 [.c (.v (.int .i64 x1)),.c (.v (.int .i64 x2)),.c (.v (.int .i64 x3)),.c (.v (.int .i64 x4)),.c (.v (.int .u64 x5)),.c (.v (.int .u64 x6)),.c (.v (.int .u64 x7)),.c (.v (.int .u64 x8)),.c (.v (.int .i64 x9)),.c (.v (.int .i64 x10)),.c (.v (.int .i64 x11)),.c (.v (.string x12)),.c (.v (.string x13)),.c (.v (.int .i64 x14)),.c (.v (.int .i64 x15)),.c (.v (.string x16)),.c (.sl 3 x17 none),.c (.sl 5 x18 none),.c (.v (.int .i64 x19)),.c (.v (.int .i64 x20)),.c (.v (.string x21)),.c (.sl 3 x22 none),.c (.sl 5 x23 none),.c (.sl 6 x24 none),.c (.v (.int .i64 x25)),.c (.v (.int .i64 x26)),.c (.v (.string x27)),.c (.sl 3 x28 none),.c (.sl 5 x29 none),.c (.v (.int .i64 x30)),.c (.v (.int .i64 x31)),.c (.v (.string x32)),.c (.sl 3 x33 none),.c (.sl 5 x34 none)]),(501,.blk 0 [.c (.v (.bool y2)),.c (.v (.bool y3)),.c (.v (.bool y4)),.c (.v (.bool y5)),.c (.v (.bool y6)),.c (.v (.bool y7)),.c (.v (.bool y8)),.c (.v (.bool y9))]),(502,.blk 0 [.t 503 0 (O.len j18)]),(503,.arr 0 1 j18 none false)],1⟩))∧p11_3 False fu K0 x0 x12 x30 x31 x32 x33 x34 y8 y9 j18) (fun k6 h L hL_3=>?_) (fun k6 h L hL_3=>?_) ?_
 conv=>cbv
 refine z0d hO [.ref 1,.shut] (d_p34 fu O.len hN h) ?_
 intro e Q a b
 conv=>cbv
 refine⟨(by subst hO;exact Nat.le_refl _),?_⟩
 refine⟨by subst a hO;rfl,?_⟩
 intro r bs d
 rw [b] at d
 clear a b h
 obtain⟨y23,_,⟨rfl,rfl⟩,h⟩:=d
 conv=>cbv
 exact hL_3 _ _ ⟨y23,⟨(by (conv=>lhs;cbv)<;>(subst hO;rfl)),(by (conv=>lhs;cbv)<;>(subst hO;rfl))⟩,h⟩
 conv=>cbv
 exact hL_3 _ _ ⟨j17,⟨(by (conv=>lhs;cbv)<;>(subst hO;rfl)),(by (conv=>lhs;cbv)<;>(subst hO;rfl))⟩,h⟩
 rintro tm m ⟨j18,hs,h⟩
 unfold p11_3 at h
 obtain⟨rfl,rfl⟩:=hs
 conv=>cbv
 refine z0e hO tiA h (by subst hO;rfl) [0,3,6,8] [8888888] [] (fun tm m=>∃ (j19:EL),((tm=frame 0 104 [(0,.c (.sl 1 x0 none)),(3,.p 500 0 0),(6,.p 501 0 0),(8,.p 502 0 0)]∧m=⟨[(500,.blk 0 [.c (.v (.int .i64 x1)),.c (.v (.int .i64 x2)),.c (.v (.int .i64 x3)),.c (.v (.int .i64 x4)),.c (.v (.int .u64 x5)),.c (.v (.int .u64 x6)),.c (.v (.int .u64 x7)),.c (.v (.int .u64 x8)),.c (.v (.int .i64 x9)),.c (.v (.int .i64 x10)),.c (.v (.int .i64 x11)),.c (.v (.string x12)),.c (.v (.string x13)),.c (.v (.int .i64 x14)),.c (.v (.int .i64 x15)),.c (.v (.string x16)),.c (.sl 3 x17 none),.c (.sl 5 x18 none),.c (.v (.int .i64 x19)),.c (.v (.int .i64 x20)),.c (.v (.string x21)),.c (.sl 3 x22 none),.c (.sl 5 x23 none),.c (.sl 6 x24 none),.c (.v (.int .i64 x25)),.c (.v (.int .i64 x26)),.c (.v (.string x27)),.c (.sl 3 x28 none),.c (.sl 5 x29 none),.c (.v (.int .i64 x30)),.c (.v (.int .i64 x31)),.c (.v (.string x32)),.c (.sl 3 x33 none),.c (.sl 5 x34 none)]),(501,.blk 0 [.c (.v (.bool y2)),.c (.v (.bool y3)),.c (.v (.bool y4)),.c (.v (.bool y5)),.c (.v (.bool y6)),.c (.v (.bool y7)),.c (.v (.bool y8)),.c (.v (.bool y9))]),(502,.blk 0 [.t 503 0 (O.len j19)]),(503,.arr 0 1 j19 none false)],1⟩))∧p11_2 False fu K0 x0 x12 y9 j19) (fun k5 h L hL_2=>?_) (fun k5 h L hL_2=>?_) ?_
 conv=>cbv
 refine z0d hO [.ref 1,.shut] (d_p34 fu O.len hN h) ?_
 intro e Q a b
 conv=>cbv
 refine⟨(by subst hO;exact Nat.le_refl _),?_⟩
 refine⟨by subst a hO;rfl,?_⟩
 intro r bs d
 rw [b] at d
 clear a b h
 obtain⟨y22,_,⟨rfl,rfl⟩,h⟩:=d
 conv=>cbv
 exact hL_2 _ _ ⟨y22,⟨(by (conv=>lhs;cbv)<;>(subst hO;rfl)),(by (conv=>lhs;cbv)<;>(subst hO;rfl))⟩,h⟩
 conv=>cbv
 exact hL_2 _ _ ⟨j18,⟨(by (conv=>lhs;cbv)<;>(subst hO;rfl)),(by (conv=>lhs;cbv)<;>(subst hO;rfl))⟩,h⟩
 rintro tm m ⟨j19,hs,h⟩
 unfold p11_2 at h
 obtain⟨rfl,rfl⟩:=hs
 conv=>cbv
 refine z0e hO tiA h (by subst hO;rfl) [0,8] [8888888] [] (fun tm m=>∃ (j20:EL),((tm=frame 0 104 [(0,.c (.sl 1 x0 none)),(8,.p 500 0 0)]∧m=⟨[(500,.blk 0 [.t 501 0 (O.len j20)]),(501,.arr 0 1 j20 none false)],1⟩))∧p11_1 False fu K0 x0 j20) (fun k3 h L hL_1=>?_) (fun k3 h L hL_1=>?_) ?_
 conv=>cbv
 have hz:=z1f h
 have k4:=hz.1
 replace h:=hz.2
 clear hz
 refine z0d hO [.ref 1,.shut] (d_p35 fu O.len hN h) ?_
 intro e Q a b
 conv=>cbv
 refine⟨(by subst hO;exact Nat.le_refl _),?_⟩
 refine z1p hO (by subst hO;exact k4) ?_
 conv=>cbv
 refine⟨by subst a hO;rfl,?_⟩
 intro r bs d
 rw [b] at d
 clear a b h
 obtain⟨y21,_,⟨rfl,rfl⟩,h⟩:=d
 conv=>cbv
 exact hL_1 _ _ ⟨y21,⟨(by (conv=>lhs;cbv)<;>(subst hO;rfl)),(by (conv=>lhs;cbv)<;>(subst hO;rfl))⟩,h⟩
 conv=>cbv
 exact hL_1 _ _ ⟨j19,⟨(by (conv=>lhs;cbv)<;>(subst hO;rfl)),(by (conv=>lhs;cbv)<;>(subst hO;rfl))⟩,h⟩
 rintro tm m ⟨j20,hs,h⟩
 unfold p11_1 at h
 obtain⟨rfl,rfl⟩:=hs
 conv=>cbv
 refine br_h hO h (by subst hO;rfl) (fun k2 h=>?_) (fun k2 h=>?_)
 conv=>cbv
 rw [b]
 exact⟨nilE,3,_,_,⟨(by subst hO;rfl),(by subst hO;rfl)⟩,h⟩
 conv=>cbv
 refine z0b hO ?_
 conv=>cbv
 refine z0k hO ?_
 conv=>cbv
 rw [b]
 exact⟨j20,0,_,_,⟨(by subst hO;rfl),(by subst hO;rfl)⟩,h⟩
theorem d_p59 (fu:Nat){K0:Int→Int→Int→Prop}(L:EL→Nat)(hN:L=List.length){x0:EL}(h:p59 False fu K0 x0):Den Try.prog G0 59 [.c (.sl 1 x0 none)] (fun r bs=>(∃ (y0 y1 y2:Int) (o0:OV),(r=.tup [.c (.v (.int .u64 y0)),.c (.v (.int .i64 y1)),.c (.v (.int .i64 y2))]∧bs=[o0])∧K0 y0 y1 y2)):=by
 obtain⟨O,hO⟩:∃ O,O=std 0 T G0 (Den Try.prog G0):=⟨_,rfl⟩
 have hLO:L=O.len:=by rw [hN,hO];rfl
 subst hLO
 refine den_h hO tiA mixed tabOk (fn:=Try.f59) (sh:=true) (by kernel_rfl) rfl rfl rfl rfl ?_
 intro Q b
 unfold p59 at h
 conv=>cbv
 refine z0r hO tiA [2,7,8,9] [] [] (fun (n:Nat) tm m=>∃ (z1:Int) (z2:Int) (z3:Int),((tm=frame 0 43 [(2,.c (.v (.int .u64 z1))),(7,.c (.sl 1 x0 none)),(8,.c (.v (.int .i64 z2))),(9,.c (.v (.int .i64 z3)))]∧m=⟨[],1⟩))∧p59_3L False fu K0 x0 n z1 z2 z3) (fun n=>n) fu ⟨0,((x0.length:Nat):Int),0,⟨(by (conv=>lhs;cbv)<;>(subst hO;rfl)),(by (conv=>lhs;cbv)<;>(subst hO;rfl))⟩,h⟩ ?_
 rintro n1 tm m L ⟨z1,z2,z3,hs,h⟩ hLn1
 (cases n1 with
 | zero=>rw [p59_3L] at h;exact h.elim
 | succ n1 =>
 rw [p59_3L] at h
 unfold p59_3 at h
 obtain⟨rfl,rfl⟩:=hs
 conv=>cbv
 refine br_h hO h (by subst hO;rfl) (fun k1 h=>?_) (fun k1 h=>?_)
 conv=>cbv
 refine z0b hO ?_
 conv=>cbv
 refine and_h h (fun g=>(by subst hO;exact g)) (fun h=>?_)
 refine and_h h (fun g=>(by subst hO;exact g)) (fun h=>?_)
 obtain⟨c4,hr,h⟩:=z2s h
 refine z1a hO _ (by subst hO;exact hr) ?_
 clear hr
 conv=>cbv
 refine z0g hO tiA [2,5,6,7,8,9,19] [] [] (fun tm m=>∃ (j5:Bool),((tm=frame 0 43 [(2,.c (.v (.int .u64 z1))),(5,.c (.v (.int .i64 z3))),(6,.c (.v (.int .u8 c4))),(7,.c (.sl 1 x0 none)),(8,.c (.v (.int .i64 z2))),(9,.c (.v (.int .i64 z3))),(19,.c (.v (.bool j5)))]∧m=⟨[],1⟩))∧p59_2 False fu K0 (p59_3L False fu K0 x0 n1) z1 z2 z3 c4 j5) (fun L hL_2=>?_) ?_
 conv=>cbv
 refine br_h hO h (by subst hO;rfl) (fun k6 h=>?_) (fun k6 h=>?_)
 conv=>cbv
 refine br_t hO k6 ?_
 conv=>cbv
 refine br_t hO k6 ?_
 conv=>cbv
 exact hL_2 _ _ ⟨(z0a .gtr c4 1),⟨(by (conv=>lhs;cbv)<;>(subst hO;rfl)),(by (conv=>lhs;cbv)<;>(subst hO;rfl))⟩,h⟩
 conv=>cbv
 refine br_f hO k6 ?_
 conv=>cbv
 refine br_f hO k6 ?_
 conv=>cbv
 exact hL_2 _ _ ⟨false,⟨(by (conv=>lhs;cbv)<;>(subst hO;rfl)),(by (conv=>lhs;cbv)<;>(subst hO;rfl))⟩,h⟩
 rintro tm m ⟨j5,hs,h⟩
 unfold p59_2 at h
 obtain⟨rfl,rfl⟩:=hs
 conv=>cbv
 refine br_h hO h (by subst hO;rfl) (fun k2 h=>?_) (fun k2 h=>?_)
 conv=>cbv
 rw [b]
 exact⟨0,0,4,_,⟨(by subst hO;rfl),(by subst hO;rfl)⟩,h⟩
 conv=>cbv
 refine z0b hO ?_
 conv=>cbv
 refine and_h h (fun g=>(by subst hO;exact g)) (fun h=>?_)
 refine br_h hO h (by subst hO;rfl) (fun k3 h=>?_) (fun k3 h=>?_)
 conv=>cbv
 refine z0b hO ?_
 conv=>cbv
 exact hLn1 n1 _ _ (Nat.lt_succ_self n1) ⟨z0c .or .u64 z1 (z0c .shl .u64 (IntKind.u64.wrap (z0c .andNot .u8 c4 128)) (IntKind.u64.wrap (z0c .mul .i64 7 z3))),z2,z0c .add .i64 z3 1,⟨(by (conv=>lhs;cbv)<;>(subst hO;rfl)),(by (conv=>lhs;cbv)<;>(subst hO;rfl))⟩,h⟩
 conv=>cbv
 refine z0g hO tiA [2,5,35] [] [] (fun tm m=>∃ (j6:Int) (j7:Bool),((tm=frame 0 43 [(2,.c (.v (.int .u64 j6))),(5,.c (.v (.int .i64 z3))),(35,.c (.v (.bool j7)))]∧m=⟨[],1⟩))∧p59_1 False fu K0 z3 j6 j7) (fun L hL_1=>?_) ?_
 conv=>cbv
 refine br_h hO h (by subst hO;rfl) (fun k5 h=>?_) (fun k5 h=>?_)
 conv=>cbv
 refine br_t hO k5 ?_
 conv=>cbv
 refine br_t hO k5 ?_
 conv=>cbv
 exact hL_1 _ _ ⟨z0c .or .u64 z1 (z0c .shl .u64 (IntKind.u64.wrap (z0c .andNot .u8 c4 128)) (IntKind.u64.wrap (z0c .mul .i64 7 z3))),(z0a .gtr z3 0),⟨(by (conv=>lhs;cbv)<;>(subst hO;rfl)),(by (conv=>lhs;cbv)<;>(subst hO;rfl))⟩,h⟩
 conv=>cbv
 refine br_f hO k5 ?_
 conv=>cbv
 refine br_f hO k5 ?_
 conv=>cbv
 exact hL_1 _ _ ⟨z0c .or .u64 z1 (z0c .shl .u64 (IntKind.u64.wrap (z0c .andNot .u8 c4 128)) (IntKind.u64.wrap (z0c .mul .i64 7 z3))),false,⟨(by (conv=>lhs;cbv)<;>(subst hO;rfl)),(by (conv=>lhs;cbv)<;>(subst hO;rfl))⟩,h⟩
 rintro tm m ⟨j6,j7,hs,h⟩
 unfold p59_1 at h
 obtain⟨rfl,rfl⟩:=hs
 conv=>cbv
 refine br_h hO h (by subst hO;rfl) (fun k4 h=>?_) (fun k4 h=>?_)
 conv=>cbv
 rw [b]
 exact⟨0,0,5,_,⟨(by subst hO;rfl),(by subst hO;rfl)⟩,h⟩
 conv=>cbv
 rw [b]
 exact⟨j6,z0c .add .i64 z3 1,0,_,⟨(by subst hO;rfl),(by subst hO;rfl)⟩,h⟩
 conv=>cbv
 rw [b]
 exact⟨0,0,2,_,⟨(by subst hO;rfl),(by subst hO;rfl)⟩,h⟩)
theorem d_p15 (fu:Nat){K0:EL→Int→Prop}(L:EL→Nat)(hN:L=List.length){x0:EL}{x1 x2:Int}(h:p15 False fu K0 x0 x1 x2):Den Try.prog G0 15 [.ptr [.c (.sl 1 x0 none),.c (.v (.int .i64 x1))],.c (.v (.int .i64 x2))] (fun r bs=>(∃ (y0:EL) (y1:Int) (o1:OV),(r=.tup []∧bs=[.ptr [.c (.sl 1 y0 none),.c (.v (.int .i64 y1))],o1])∧K0 y0 y1)):=by
 obtain⟨O,hO⟩:∃ O,O=std 1 T G0 (Den Try.prog G0):=⟨_,rfl⟩
 have hLO:L=O.len:=by rw [hN,hO];rfl
 subst hLO
 refine den_h hO tiA mixed tabOk (fn:=Try.f15) (sh:=true) (by kernel_rfl) rfl rfl rfl rfl ?_
 intro Q b
 unfold p15 at h
 conv=>cbv
 refine z0e hO tiA h (by subst hO;rfl) [] [0] [] (fun tm m=>∃ (j1:Int),((tm=frame 0 13 []∧m=⟨[(0,.blk 0 [.c (.sl 1 x0 none),.c (.v (.int .i64 j1))])],2⟩))∧p15_1 False fu K0 x0 j1) (fun k1 h L hL_1=>?_) (fun k1 h L hL_1=>?_) ?_
 conv=>cbv
 exact hL_1 _ _ ⟨x2,⟨(by (conv=>lhs;cbv)<;>(subst hO;rfl)),(by (conv=>lhs;cbv)<;>(subst hO;rfl))⟩,h⟩
 conv=>cbv
 exact hL_1 _ _ ⟨x1,⟨(by (conv=>lhs;cbv)<;>(subst hO;rfl)),(by (conv=>lhs;cbv)<;>(subst hO;rfl))⟩,h⟩
 rintro tm m ⟨j1,hs,h⟩
 unfold p15_1 at h
 obtain⟨rfl,rfl⟩:=hs
 conv=>cbv
 rw [b]
 exact⟨x0,j1,_,⟨(by subst hO;rfl),(by subst hO;rfl)⟩,h⟩
theorem d_p41 (fu:Nat){K0:Int→EL→Int→Prop}(L:EL→Nat)(hN:L=List.length){x0:EL}{x1:Int}(h:p41 False fu K0 x0 x1):Den Try.prog G0 41 [.ptr [.c (.sl 1 x0 none),.c (.v (.int .i64 x1))]] (fun r bs=>(∃ (y0:Int) (y1:EL) (y2:Int),(r=.c (.v (.int .u64 y0))∧bs=[.ptr [.c (.sl 1 y1 none),.c (.v (.int .i64 y2))]])∧K0 y0 y1 y2)):=by
 obtain⟨O,hO⟩:∃ O,O=std 1 T G0 (Den Try.prog G0):=⟨_,rfl⟩
 have hLO:L=O.len:=by rw [hN,hO];rfl
 subst hLO
 refine den_h hO tiA mixed tabOk (fn:=Try.f41) (sh:=true) (by kernel_rfl) rfl rfl rfl rfl ?_
 intro Q b
 unfold p41 at h
 conv=>cbv
 refine br_h hO h (by subst hO;rfl) (fun k1 h=>?_) (fun k1 h=>?_)
 conv=>cbv
 rw [b]
 exact⟨0,x0,x1,⟨(by subst hO;rfl),(by subst hO;rfl)⟩,h⟩
 conv=>cbv
 refine z0b hO ?_
 conv=>cbv
 refine z0d hO [.shut] (d_p59 fu O.len hN h) ?_
 intro e Q a b
 conv=>cbv
 refine⟨by subst a hO;rfl,?_⟩
 intro r bs d
 rw [b] at d
 clear a b h
 obtain⟨y1,y2,y3,_,⟨rfl,rfl⟩,h⟩:=d
 conv=>cbv
 refine z0d hO [.ref 2,.shut] (d_p15 fu O.len hN h) ?_
 intro e Q a b
 conv=>cbv
 refine⟨by subst a hO;rfl,?_⟩
 intro r bs d
 rw [b] at d
 clear a b h
 obtain⟨y4,y5,_,⟨rfl,rfl⟩,h⟩:=d
 conv=>cbv
 refine and_h h (fun g=>(by subst hO;exact g)) (fun h=>?_)
 refine and_h h (fun g=>(by subst hO;exact g)) (fun h=>?_)
 refine and_h h (fun g=>(by subst hO;exact g)) (fun h=>?_)
 rw [b]
 exact⟨y1,List.drop ((y2:Int).toNat) (List.take (((y4.length:Nat):Int).toNat) y4),y5,⟨(by subst hO;rfl),(by subst hO;rfl)⟩,h⟩
theorem d_p13 (fu:Nat){K0:Int→EL→Int→Prop}(L:EL→Nat)(hN:L=List.length){x0:EL}{x1 x2 x3:Int}(h:p13 False fu K0 x0 x1 x2 x3):Den Try.prog G0 13 [.ptr [.c (.sl 1 x0 none),.c (.v (.int .i64 x1))],.c (.v (.int .i64 x2)),.c (.v (.int .i64 x3))] (fun r bs=>(∃ (y0:Int) (y1:EL) (y2:Int) (o1 o2:OV),(r=.c (.v (.int .i64 y0))∧bs=[.ptr [.c (.sl 1 y1 none),.c (.v (.int .i64 y2))],o1,o2])∧K0 y0 y1 y2)):=by
 obtain⟨O,hO⟩:∃ O,O=std 1 T G0 (Den Try.prog G0):=⟨_,rfl⟩
 have hLO:L=O.len:=by rw [hN,hO];rfl
 subst hLO
 refine den_h hO tiA mixed tabOk (fn:=Try.f13) (sh:=true) (by kernel_rfl) rfl rfl rfl rfl ?_
 intro Q b
 unfold p13 at h
 conv=>cbv
 refine z0d hO [.ref 2] (d_p41 fu O.len hN h) ?_
 intro e Q a b
 conv=>cbv
 refine⟨by subst a hO;rfl,?_⟩
 intro r bs d
 rw [b] at d
 clear a b h
 obtain⟨y1,y2,y3,⟨rfl,rfl⟩,h⟩:=d
 conv=>cbv
 refine z0g hO tiA [0,1,7,19] [0] [] (fun tm m=>∃ (j4:Bool),((tm=frame 0 25 [(0,.p 0 0 0),(1,.c (.v (.int .i64 x2))),(7,.c (.v (.int .u64 y1))),(19,.c (.v (.bool j4)))]∧m=⟨[(0,.blk 0 [.c (.sl 1 y2 none),.c (.v (.int .i64 y3))])],2⟩))∧p13_1 False fu K0 x2 y1 y2 y3 j4) (fun L hL_1=>?_) ?_
 conv=>cbv
 refine br_h hO h (by subst hO;rfl) (fun k2 h=>?_) (fun k2 h=>?_)
 conv=>cbv
 refine br_t hO k2 ?_
 conv=>cbv
 refine br_t hO k2 ?_
 conv=>cbv
 refine br_t hO k2 ?_
 conv=>cbv
 refine br_t hO k2 ?_
 conv=>cbv
 exact hL_1 _ _ ⟨true,⟨(by (conv=>lhs;cbv)<;>(subst hO;rfl)),(by (conv=>lhs;cbv)<;>(subst hO;rfl))⟩,h⟩
 conv=>cbv
 refine br_f hO k2 ?_
 conv=>cbv
 refine br_f hO k2 ?_
 conv=>cbv
 refine br_f hO k2 ?_
 conv=>cbv
 refine br_f hO k2 ?_
 conv=>cbv
 exact hL_1 _ _ ⟨(z0a .gtr y1 (IntKind.u64.wrap x3)),⟨(by (conv=>lhs;cbv)<;>(subst hO;rfl)),(by (conv=>lhs;cbv)<;>(subst hO;rfl))⟩,h⟩
 rintro tm m ⟨j4,hs,h⟩
 unfold p13_1 at h
 obtain⟨rfl,rfl⟩:=hs
 conv=>cbv
 refine br_h hO h (by subst hO;rfl) (fun k1 h=>?_) (fun k1 h=>?_)
 conv=>cbv
 refine z0d hO [.ref 2,.shut] (d_p15 fu O.len hN h) ?_
 intro e Q a b
 conv=>cbv
 refine⟨by subst a hO;rfl,?_⟩
 intro r bs d
 rw [b] at d
 clear a b h
 obtain⟨y5,y6,_,⟨rfl,rfl⟩,h⟩:=d
 conv=>cbv
 rw [b]
 exact⟨x2,y5,y6,_,_,⟨(by subst hO;rfl),(by subst hO;rfl)⟩,h⟩
 conv=>cbv
 refine z0b hO ?_
 conv=>cbv
 rw [b]
 exact⟨IntKind.i64.wrap y1,y2,y3,_,_,⟨(by subst hO;rfl),(by subst hO;rfl)⟩,h⟩
theorem d_p16 (fu:Nat){K0:Int→EL→Int→Prop}(L:EL→Nat)(hN:L=List.length){x0:EL}{x1:Int}(h:p16 False fu K0 x0 x1):Den Try.prog G0 16 [.ptr [.c (.sl 1 x0 none),.c (.v (.int .i64 x1))]] (fun r bs=>(∃ (y0:Int) (y1:EL) (y2:Int),(r=.c (.v (.int .i64 y0))∧bs=[.ptr [.c (.sl 1 y1 none),.c (.v (.int .i64 y2))]])∧K0 y0 y1 y2)):=by
 obtain⟨O,hO⟩:∃ O,O=std 1 T G0 (Den Try.prog G0):=⟨_,rfl⟩
 have hLO:L=O.len:=by rw [hN,hO];rfl
 subst hLO
 refine den_h hO tiA mixed tabOk (fn:=Try.f16) (sh:=true) (by kernel_rfl) rfl rfl rfl rfl ?_
 intro Q b
 unfold p16 at h
 conv=>cbv
 refine z0d hO [.ref 2] (d_p41 fu O.len hN h) ?_
 intro e Q a b
 conv=>cbv
 refine⟨by subst a hO;rfl,?_⟩
 intro r bs d
 rw [b] at d
 clear a b h
 obtain⟨y1,y2,y3,⟨rfl,rfl⟩,h⟩:=d
 conv=>cbv
 refine br_h hO h (by subst hO;rfl) (fun k1 h=>?_) (fun k1 h=>?_)
 conv=>cbv
 refine z0d hO [.ref 2,.shut] (d_p15 fu O.len hN h) ?_
 intro e Q a b
 conv=>cbv
 refine⟨by subst a hO;rfl,?_⟩
 intro r bs d
 rw [b] at d
 clear a b h
 obtain⟨y4,y5,_,⟨rfl,rfl⟩,h⟩:=d
 conv=>cbv
 rw [b]
 exact⟨0,y4,y5,⟨(by subst hO;rfl),(by subst hO;rfl)⟩,h⟩
 conv=>cbv
 refine z0b hO ?_
 conv=>cbv
 rw [b]
 exact⟨IntKind.i64.wrap y1,y2,y3,⟨(by subst hO;rfl),(by subst hO;rfl)⟩,h⟩
theorem d_p60 (fu:Nat){K0:Int→Int→Prop}(L:EL→Nat)(hN:L=List.length){x0:EL}(h:p60 False fu K0 x0):Den Try.prog G0 60 [.c (.sl 1 x0 none)] (fun r bs=>(∃ (y0 y1:Int) (o0:OV),(r=.tup [.c (.v (.int .u64 y0)),.c (.v (.int .i64 y1))]∧bs=[o0])∧K0 y0 y1)):=by
 obtain⟨O,hO⟩:∃ O,O=std 0 T G0 (Den Try.prog G0):=⟨_,rfl⟩
 have hLO:L=O.len:=by rw [hN,hO];rfl
 subst hLO
 refine den_h hO tiA mixed tabOk (fn:=Try.f60) (sh:=true) (by kernel_rfl) rfl rfl rfl rfl ?_
 intro Q b
 unfold p60 at h
 conv=>cbv
 refine br_h hO h (by subst hO;rfl) (fun k1 h=>?_) (fun k1 h=>?_)
 conv=>cbv
 rw [b]
 exact⟨0,2,_,⟨(by subst hO;rfl),(by subst hO;rfl)⟩,h⟩
 conv=>cbv
 refine z0b hO ?_
 conv=>cbv
 refine and_h h (fun g=>(by subst hO;exact g)) (fun h=>?_)
 refine and_h h (fun g=>(by subst hO;exact g)) (fun h=>?_)
 refine and_h h (fun g=>(by subst hO;exact g)) (fun h=>?_)
 refine z0r hO tiA [2,10,11,12] [] [] (fun (n:Nat) tm m=>∃ (z1:Int) (z2:EL) (z3:Int) (z4:Int),((tm=frame 0 23 [(2,.c (.v (.int .u64 z1))),(10,.c (.sl 1 z2 none)),(11,.c (.v (.int .i64 z3))),(12,.c (.v (.int .i64 z4)))]∧m=⟨[],1⟩))∧p60_1L False fu K0 n z1 z2 z3 z4) (fun n=>n) fu ⟨0,List.drop ((0:Int).toNat) (List.take ((8:Int).toNat) x0),(((List.drop ((0:Int).toNat) (List.take ((8:Int).toNat) x0)).length:Nat):Int),0,⟨(by (conv=>lhs;cbv)<;>(subst hO;rfl)),(by (conv=>lhs;cbv)<;>(subst hO;rfl))⟩,h⟩ ?_
 rintro n1 tm m L ⟨z1,z2,z3,z4,hs,h⟩ hLn1
 (cases n1 with
 | zero=>rw [p60_1L] at h;exact h.elim
 | succ n1 =>
 rw [p60_1L] at h
 unfold p60_1 at h
 obtain⟨rfl,rfl⟩:=hs
 conv=>cbv
 refine br_h hO h (by subst hO;rfl) (fun k2 h=>?_) (fun k2 h=>?_)
 conv=>cbv
 refine z0b hO ?_
 conv=>cbv
 refine and_h h (fun g=>(by subst hO;exact g)) (fun h=>?_)
 refine and_h h (fun g=>(by subst hO;exact g)) (fun h=>?_)
 obtain⟨c5,hr,h⟩:=z2s h
 refine z1a hO _ (by subst hO;exact hr) ?_
 clear hr
 conv=>cbv
 refine and_h h (fun g=>(by subst hO;exact g)) (fun h=>?_)
 exact hLn1 n1 _ _ (Nat.lt_succ_self n1) ⟨z0c .or .u64 (z0c .shl .u64 z1 8) (IntKind.u64.wrap c5),z2,z3,z0c .add .i64 z4 1,⟨(by (conv=>lhs;cbv)<;>(subst hO;rfl)),(by (conv=>lhs;cbv)<;>(subst hO;rfl))⟩,h⟩
 conv=>cbv
 rw [b]
 exact⟨z1,0,_,⟨(by subst hO;rfl),(by subst hO;rfl)⟩,h⟩)
theorem d_p42 (fu:Nat){K0:Int→EL→Int→Prop}(L:EL→Nat)(hN:L=List.length){x0:EL}{x1:Int}(h:p42 False fu K0 x0 x1):Den Try.prog G0 42 [.ptr [.c (.sl 1 x0 none),.c (.v (.int .i64 x1))]] (fun r bs=>(∃ (y0:Int) (y1:EL) (y2:Int),(r=.c (.v (.int .u64 y0))∧bs=[.ptr [.c (.sl 1 y1 none),.c (.v (.int .i64 y2))]])∧K0 y0 y1 y2)):=by
 obtain⟨O,hO⟩:∃ O,O=std 1 T G0 (Den Try.prog G0):=⟨_,rfl⟩
 have hLO:L=O.len:=by rw [hN,hO];rfl
 subst hLO
 refine den_h hO tiA mixed tabOk (fn:=Try.f42) (sh:=true) (by kernel_rfl) rfl rfl rfl rfl ?_
 intro Q b
 unfold p42 at h
 conv=>cbv
 refine br_h hO h (by subst hO;rfl) (fun k1 h=>?_) (fun k1 h=>?_)
 conv=>cbv
 rw [b]
 exact⟨0,x0,x1,⟨(by subst hO;rfl),(by subst hO;rfl)⟩,h⟩
 conv=>cbv
 refine z0b hO ?_
 conv=>cbv
 refine z0d hO [.shut] (d_p60 fu O.len hN h) ?_
 intro e Q a b
 conv=>cbv
 refine⟨by subst a hO;rfl,?_⟩
 intro r bs d
 rw [b] at d
 clear a b h
 obtain⟨y1,y2,_,⟨rfl,rfl⟩,h⟩:=d
 conv=>cbv
 refine z0d hO [.ref 2,.shut] (d_p15 fu O.len hN h) ?_
 intro e Q a b
 conv=>cbv
 refine⟨by subst a hO;rfl,?_⟩
 intro r bs d
 rw [b] at d
 clear a b h
 obtain⟨y3,y4,_,⟨rfl,rfl⟩,h⟩:=d
 conv=>cbv
 refine br_h hO h (by subst hO;rfl) (fun k2 h=>?_) (fun k2 h=>?_)
 conv=>cbv
 rw [b]
 exact⟨0,y3,y4,⟨(by subst hO;rfl),(by subst hO;rfl)⟩,h⟩
 conv=>cbv
 refine z0b hO ?_
 conv=>cbv
 refine and_h h (fun g=>(by subst hO;exact g)) (fun h=>?_)
 refine and_h h (fun g=>(by subst hO;exact g)) (fun h=>?_)
 refine and_h h (fun g=>(by subst hO;exact g)) (fun h=>?_)
 rw [b]
 exact⟨y1,List.drop ((8:Int).toNat) (List.take (((y3.length:Nat):Int).toNat) y3),y4,⟨(by subst hO;rfl),(by subst hO;rfl)⟩,h⟩
theorem d_p17 (fu:Nat){K0:Int→Int→EL→Int→Prop}(L:EL→Nat)(hN:L=List.length){x0:EL}{x1:Int}(h:p17 False fu K0 x0 x1):Den Try.prog G0 17 [.ptr [.c (.sl 1 x0 none),.c (.v (.int .i64 x1))]] (fun r bs=>(∃ (y0 y1:Int) (y2:EL) (y3:Int),(r=.agg [.c (.v (.int .u64 y0)),.c (.v (.int .u64 y1))]∧bs=[.ptr [.c (.sl 1 y2 none),.c (.v (.int .i64 y3))]])∧K0 y0 y1 y2 y3)):=by
 obtain⟨O,hO⟩:∃ O,O=std 1 T G0 (Den Try.prog G0):=⟨_,rfl⟩
 have hLO:L=O.len:=by rw [hN,hO];rfl
 subst hLO
 refine den_h hO tiA mixed tabOk (fn:=Try.f17) (sh:=true) (by kernel_rfl) rfl rfl rfl rfl ?_
 intro Q b
 unfold p17 at h
 conv=>cbv
 refine z0d hO [.ref 2] (d_p42 fu O.len hN h) ?_
 intro e Q a b
 conv=>cbv
 refine⟨by subst a hO;rfl,?_⟩
 intro r bs d
 rw [b] at d
 clear a b h
 obtain⟨y1,y2,y3,⟨rfl,rfl⟩,h⟩:=d
 conv=>cbv
 refine z0d hO [.ref 2] (d_p42 fu O.len hN h) ?_
 intro e Q a b
 conv=>cbv
 refine⟨by subst a hO;rfl,?_⟩
 intro r bs d
 rw [b] at d
 clear a b h
 obtain⟨y4,y5,y6,⟨rfl,rfl⟩,h⟩:=d
 conv=>cbv
 rw [b]
 exact⟨y1,y4,y5,y6,⟨(by subst hO;rfl),(by subst hO;rfl)⟩,h⟩
theorem d_p44 (fu:Nat){K0:EL→Int→Int→Prop}(L:EL→Nat)(hN:L=List.length){x0:EL}{x1:Int}(h:p44 False fu K0 x0 x1):Den Try.prog G0 44 [.c (.sl 1 x0 none),.c (.v (.int .i64 x1))] (fun r bs=>(∃ (y0:EL) (y1 y2:Int) (o0 o1:OV),(r=.tup [.c (.sl 1 y0 none),.c (.v (.int .i64 y1)),.c (.v (.int .i64 y2))]∧bs=[o0,o1])∧K0 y0 y1 y2)):=by
 obtain⟨O,hO⟩:∃ O,O=std 0 T G0 (Den Try.prog G0):=⟨_,rfl⟩
 have hLO:L=O.len:=by rw [hN,hO];rfl
 subst hLO
 refine den_h hO tiA mixed tabOk (fn:=Try.f44) (sh:=true) (by kernel_rfl) rfl rfl rfl rfl ?_
 intro Q b
 unfold p44 at h
 conv=>cbv
 refine z0d hO [.shut] (d_p59 fu O.len hN h) ?_
 intro e Q a b
 conv=>cbv
 refine⟨by subst a hO;rfl,?_⟩
 intro r bs d
 rw [b] at d
 clear a b h
 obtain⟨y1,y2,y3,_,⟨rfl,rfl⟩,h⟩:=d
 conv=>cbv
 refine br_h hO h (by subst hO;rfl) (fun k1 h=>?_) (fun k1 h=>?_)
 conv=>cbv
 rw [b]
 exact⟨nilE,0,y3,_,_,⟨(by subst hO;rfl),(by subst hO;rfl)⟩,h⟩
 conv=>cbv
 refine br_h hO h (by subst hO;rfl) (fun k2 h=>?_) (fun k2 h=>?_)
 conv=>cbv
 rw [b]
 exact⟨nilE,0,3,_,_,⟨(by subst hO;rfl),(by subst hO;rfl)⟩,h⟩
 conv=>cbv
 refine br_h hO h (by subst hO;rfl) (fun k3 h=>?_) (fun k3 h=>?_)
 conv=>cbv
 rw [b]
 exact⟨nilE,0,2,_,_,⟨(by subst hO;rfl),(by subst hO;rfl)⟩,h⟩
 conv=>cbv
 refine z0b hO ?_
 conv=>cbv
 refine z0b hO ?_
 conv=>cbv
 refine z0b hO ?_
 conv=>cbv
 refine and_h h (fun g=>(by subst hO;exact g)) (fun h=>?_)
 refine and_h h (fun g=>(by subst hO;exact g)) (fun h=>?_)
 refine and_h h (fun g=>(by subst hO;exact g)) (fun h=>?_)
 refine and_h h (fun g=>(by subst hO;exact g)) (fun h=>?_)
 refine and_h h (fun g=>(by subst hO;exact g)) (fun h=>?_)
 refine and_h h (fun g=>(by subst hO;exact g)) (fun h=>?_)
 refine z0k hO ?_
 conv=>cbv
 rw [b]
 exact⟨(nilE++(List.drop ((y2:Int).toNat) (List.take ((z0c .add .i64 y2 (IntKind.i64.wrap y1):Int).toNat) x0))),z0c .add .i64 y2 (IntKind.i64.wrap y1),0,_,_,⟨(by subst hO;rfl),(by subst hO;rfl)⟩,h⟩
theorem d_p20 (fu:Nat){K0:EL→EL→Int→Prop}(L:EL→Nat)(hN:L=List.length){x0:EL}{x1 x2:Int}(h:p20 False fu K0 x0 x1 x2):Den Try.prog G0 20 [.ptr [.c (.sl 1 x0 none),.c (.v (.int .i64 x1))],.c (.v (.int .i64 x2))] (fun r bs=>(∃ (y0 y1:EL) (y2:Int) (o1:OV),(r=.c (.sl 1 y0 none)∧bs=[.ptr [.c (.sl 1 y1 none),.c (.v (.int .i64 y2))],o1])∧K0 y0 y1 y2)):=by
 obtain⟨O,hO⟩:∃ O,O=std 1 T G0 (Den Try.prog G0):=⟨_,rfl⟩
 have hLO:L=O.len:=by rw [hN,hO];rfl
 subst hLO
 refine den_h hO tiA mixed tabOk (fn:=Try.f20) (sh:=true) (by kernel_rfl) rfl rfl rfl rfl ?_
 intro Q b
 unfold p20 at h
 conv=>cbv
 refine br_h hO h (by subst hO;rfl) (fun k1 h=>?_) (fun k1 h=>?_)
 conv=>cbv
 rw [b]
 exact⟨nilE,x0,x1,_,⟨(by subst hO;rfl),(by subst hO;rfl)⟩,h⟩
 conv=>cbv
 refine z0b hO ?_
 conv=>cbv
 refine z0d hO [.shut,.shut] (d_p44 fu O.len hN h) ?_
 intro e Q a b
 conv=>cbv
 refine⟨by subst a hO;rfl,?_⟩
 intro r bs d
 rw [b] at d
 clear a b h
 obtain⟨y1,y2,y3,_,_,⟨rfl,rfl⟩,h⟩:=d
 conv=>cbv
 refine z0d hO [.ref 2,.shut] (d_p15 fu O.len hN h) ?_
 intro e Q a b
 conv=>cbv
 refine⟨by subst a hO;rfl,?_⟩
 intro r bs d
 rw [b] at d
 clear a b h
 obtain⟨y4,y5,_,⟨rfl,rfl⟩,h⟩:=d
 conv=>cbv
 refine and_h h (fun g=>(by subst hO;exact g)) (fun h=>?_)
 refine and_h h (fun g=>(by subst hO;exact g)) (fun h=>?_)
 refine and_h h (fun g=>(by subst hO;exact g)) (fun h=>?_)
 rw [b]
 exact⟨y1,List.drop ((y2:Int).toNat) (List.take (((y4.length:Nat):Int).toNat) y4),y5,_,⟨(by subst hO;rfl),(by subst hO;rfl)⟩,h⟩
theorem d_p61 (fu:Nat){K0:EL→Int→Int→Prop}(L:EL→Nat)(hN:L=List.length){x0:EL}{x1 x2 x3 x4 x5:Int}(h:p61 False fu K0 x0 x1 x2 x3 x4 x5):Den Try.prog G0 61 [.ptr [.c (.sl 1 x0 none),.c (.v (.int .i64 x1))],.ptr [.c (.v (.int .i64 x2))],.c (.v (.int .i64 x3)),.c (.v (.int .i64 x4)),.c (.v (.int .i64 x5))] (fun r bs=>(∃ (y0:EL) (y1 y2:Int) (o2 o3 o4:OV),(r=.tup []∧bs=[.ptr [.c (.sl 1 y0 none),.c (.v (.int .i64 y1))],.ptr [.c (.v (.int .i64 y2))],o2,o3,o4])∧K0 y0 y1 y2)):=by
 obtain⟨O,hO⟩:∃ O,O=std 2 T G0 (Den Try.prog G0):=⟨_,rfl⟩
 have hLO:L=O.len:=by rw [hN,hO];rfl
 subst hLO
 refine den_h hO tiA mixed tabOk (fn:=Try.f61) (sh:=true) (by kernel_rfl) rfl rfl rfl rfl ?_
 intro Q b
 unfold p61 at h
 conv=>cbv
 refine z0e hO tiA h (by subst hO;rfl) [] [0,1] [] (fun tm m=>∃ (j1:EL) (j2:Int) (j3:Int),((tm=frame 0 29 []∧m=⟨[(0,.blk 0 [.c (.sl 1 j1 none),.c (.v (.int .i64 j2))]),(1,.blk 1 [.c (.v (.int .i64 j3))])],3⟩))∧p61_1 False fu K0 j1 j2 j3) (fun k1 h L hL_1=>?_) (fun k1 h L hL_1=>?_) ?_
 conv=>cbv
 refine z0d hO [.ref 2,.shut] (d_p15 fu O.len hN h) ?_
 intro e Q a b
 conv=>cbv
 refine⟨by subst a hO;rfl,?_⟩
 intro r bs d
 rw [b] at d
 clear a b h
 obtain⟨y4,y5,_,⟨rfl,rfl⟩,h⟩:=d
 conv=>cbv
 exact hL_1 _ _ ⟨y4,y5,z0c .add .i64 x2 1,⟨(by (conv=>lhs;cbv)<;>(subst hO;rfl)),(by (conv=>lhs;cbv)<;>(subst hO;rfl))⟩,h⟩
 conv=>cbv
 refine z0e hO tiA h (by subst hO;rfl) [] [0,1] [] (fun tm m=>∃ (j6:EL) (j7:Int) (j8:Int),((tm=frame 0 29 []∧m=⟨[(0,.blk 0 [.c (.sl 1 j6 none),.c (.v (.int .i64 j7))]),(1,.blk 1 [.c (.v (.int .i64 j8))])],3⟩))∧p61_2 False fu K0 j6 j7 j8) (fun k2 h L hL_2=>?_) (fun k2 h L hL_2=>?_) ?_
 conv=>cbv
 refine z0d hO [.ref 2,.shut] (d_p15 fu O.len hN h) ?_
 intro e Q a b
 conv=>cbv
 refine⟨by subst a hO;rfl,?_⟩
 intro r bs d
 rw [b] at d
 clear a b h
 obtain⟨y9,y10,_,⟨rfl,rfl⟩,h⟩:=d
 conv=>cbv
 exact hL_2 _ _ ⟨y9,y10,z0c .add .i64 x2 1,⟨(by (conv=>lhs;cbv)<;>(subst hO;rfl)),(by (conv=>lhs;cbv)<;>(subst hO;rfl))⟩,h⟩
 conv=>cbv
 exact hL_2 _ _ ⟨x0,x1,z0c .add .i64 x2 1,⟨(by (conv=>lhs;cbv)<;>(subst hO;rfl)),(by (conv=>lhs;cbv)<;>(subst hO;rfl))⟩,h⟩
 rintro tm m ⟨j6,j7,j8,hs,h⟩
 unfold p61_2 at h
 obtain⟨rfl,rfl⟩:=hs
 conv=>cbv
 exact hL_1 _ _ ⟨j6,j7,j8,⟨(by (conv=>lhs;cbv)<;>(subst hO;rfl)),(by (conv=>lhs;cbv)<;>(subst hO;rfl))⟩,h⟩
 rintro tm m ⟨j1,j2,j3,hs,h⟩
 unfold p61_1 at h
 obtain⟨rfl,rfl⟩:=hs
 conv=>cbv
 rw [b]
 exact⟨j1,j2,j3,_,_,_,⟨(by subst hO;rfl),(by subst hO;rfl)⟩,h⟩
def D_p72 (fu:Nat):Prop:=∀ {K0:Int→Int→EL→EL→Int→Int→Prop} (L:EL→Nat) (_:L=List.length) {x0:EL} {x1 x2 x3:Int} (_:p72 False fu K0 x0 x1 x2 x3),Den Try.prog G0 72 [.ptr [.c (.sl 1 x0 none),.c (.v (.int .i64 x1))],.c (.v (.int .i64 x2)),.ptr [.c (.v (.int .i64 x3))]] (fun r bs=>(∃ (y0 y1:Int) (y2 y3:EL) (y4 y5:Int) (o1:OV),(r=.agg [.c (.v (.int .i64 y0)),.c (.v (.int .i64 y1)),.c (.sl 3 y2 none)]∧bs=[.ptr [.c (.sl 1 y3 none),.c (.v (.int .i64 y4))],o1,.ptr [.c (.v (.int .i64 y5))]])∧K0 y0 y1 y2 y3 y4 y5))
theorem b_p72 (fu:Nat)(ih_p72:D_p72 fu){K0:Int→Int→EL→EL→Int→Int→Prop}(L:EL→Nat)(hN:L=List.length){x0:EL}{x1 x2 x3:Int}(h:p72_b False fu (p72 False fu) K0 x0 x1 x2 x3):Den Try.prog G0 72 [.ptr [.c (.sl 1 x0 none),.c (.v (.int .i64 x1))],.c (.v (.int .i64 x2)),.ptr [.c (.v (.int .i64 x3))]] (fun r bs=>(∃ (y0 y1:Int) (y2 y3:EL) (y4 y5:Int) (o1:OV),(r=.agg [.c (.v (.int .i64 y0)),.c (.v (.int .i64 y1)),.c (.sl 3 y2 none)]∧bs=[.ptr [.c (.sl 1 y3 none),.c (.v (.int .i64 y4))],o1,.ptr [.c (.v (.int .i64 y5))]])∧K0 y0 y1 y2 y3 y4 y5)):=by
 obtain⟨O,hO⟩:∃ O,O=std 2 T G0 (Den Try.prog G0):=⟨_,rfl⟩
 have hLO:L=O.len:=by rw [hN,hO];rfl
 subst hLO
 refine den_h hO tiA mixed tabOk (fn:=Try.f72) (sh:=true) (by kernel_rfl) rfl rfl rfl rfl ?_
 intro Q b
 unfold p72_b at h
 conv=>cbv
 refine z0d hO [.ref 2,.ref 1,.shut,.shut,.shut] (d_p61 fu O.len hN h) ?_
 intro e Q a b
 conv=>cbv
 refine⟨by subst a hO;rfl,?_⟩
 intro r bs d
 rw [b] at d
 clear a b h
 obtain⟨y1,y2,y3,_,_,_,⟨rfl,rfl⟩,h⟩:=d
 conv=>cbv
 refine br_h hO h (by subst hO;rfl) (fun k1 h=>?_) (fun k1 h=>?_)
 conv=>cbv
 rw [b]
 exact⟨0,0,nilE,y1,y2,y3,_,⟨(by subst hO;rfl),(by subst hO;rfl)⟩,h⟩
 conv=>cbv
 refine z0b hO ?_
 conv=>cbv
 refine z0d hO [.ref 2,.shut,.shut] (d_p13 fu O.len hN h) ?_
 intro e Q a b
 conv=>cbv
 refine⟨by subst a hO;rfl,?_⟩
 intro r bs d
 rw [b] at d
 clear a b h
 obtain⟨y4,y5,y6,_,_,⟨rfl,rfl⟩,h⟩:=d
 conv=>cbv
 refine z0e hO tiA h (by subst hO;rfl) [0,1,2,6,7,8] [0,1,7000,8000] [] (fun tm m=>∃ (j7:EL) (j8:Int) (j9:Int) (j10:Int),((tm=frame 0 59 [(0,.p 0 0 0),(1,.c (.v (.int .i64 x2))),(2,.p 1 1 0),(6,.p 7000 2 0),(7,.p 8000 2 0),(8,.c (.v (.int .i64 j10)))]∧m=⟨[(0,.blk 0 [.c (.sl 1 j7 none),.c (.v (.int .i64 j8))]),(1,.blk 1 [.c (.v (.int .i64 y3))]),(7000,.blk 2 [.c (.v (.int .i64 0)),.c (.v (.int .i64 0)),.c (.sl 3 [] (some []))]),(8000,.blk 2 [.c (.v (.int .i64 y4)),.c (.v (.int .i64 j9)),.c (.sl 3 [] (some []))])],3⟩))∧p72_3 False fu (p72 False fu) K0 x2 y3 y4 j7 j8 j9 j10) (fun k4 h L hL_3=>?_) (fun k4 h L hL_3=>?_) ?_
 conv=>cbv
 exact hL_3 _ _ ⟨y5,y6,0,1,⟨(by (conv=>lhs;cbv)<;>(subst hO;rfl)),(by (conv=>lhs;cbv)<;>(subst hO;rfl))⟩,h⟩
 conv=>cbv
 refine z0e hO tiA h (by subst hO;rfl) [0,1,2,6,7,8,23,26] [0,1,7000,8000] [] (fun tm m=>∃ (j26:Bool),((tm=frame 0 59 [(0,.p 0 0 0),(1,.c (.v (.int .i64 x2))),(2,.p 1 1 0),(6,.p 7000 2 0),(7,.p 8000 2 0),(8,.c (.v (.int .i64 0))),(23,.c (.v (.int .i64 y4))),(26,.c (.v (.bool j26)))]∧m=⟨[(0,.blk 0 [.c (.sl 1 y5 none),.c (.v (.int .i64 y6))]),(1,.blk 1 [.c (.v (.int .i64 y3))]),(7000,.blk 2 [.c (.v (.int .i64 0)),.c (.v (.int .i64 0)),.c (.sl 3 [] (some []))]),(8000,.blk 2 [.c (.v (.int .i64 y4)),.c (.v (.int .i64 0)),.c (.sl 3 [] (some []))])],3⟩))∧p72_7 False fu (p72 False fu) K0 x2 y3 y4 y5 y6 j26) (fun k8 h L hL_7=>?_) (fun k8 h L hL_7=>?_) ?_
 conv=>cbv
 exact hL_7 _ _ ⟨(z0a .eql y4 2),⟨(by (conv=>lhs;cbv)<;>(subst hO;rfl)),(by (conv=>lhs;cbv)<;>(subst hO;rfl))⟩,h⟩
 conv=>cbv
 exact hL_7 _ _ ⟨(z0a .eql y4 3),⟨(by (conv=>lhs;cbv)<;>(subst hO;rfl)),(by (conv=>lhs;cbv)<;>(subst hO;rfl))⟩,h⟩
 rintro tm m ⟨j26,hs,h⟩
 unfold p72_7 at h
 obtain⟨rfl,rfl⟩:=hs
 conv=>cbv
 refine z0e hO tiA h (by subst hO;rfl) [0,1,2,6,7,8] [0,1,7000,8000] [] (fun tm m=>∃ (j27:EL) (j28:Int) (j29:Int) (j30:Int),((tm=frame 0 59 [(0,.p 0 0 0),(1,.c (.v (.int .i64 x2))),(2,.p 1 1 0),(6,.p 7000 2 0),(7,.p 8000 2 0),(8,.c (.v (.int .i64 j30)))]∧m=⟨[(0,.blk 0 [.c (.sl 1 j27 none),.c (.v (.int .i64 j28))]),(1,.blk 1 [.c (.v (.int .i64 y3))]),(7000,.blk 2 [.c (.v (.int .i64 0)),.c (.v (.int .i64 0)),.c (.sl 3 [] (some []))]),(8000,.blk 2 [.c (.v (.int .i64 y4)),.c (.v (.int .i64 j29)),.c (.sl 3 [] (some []))])],3⟩))∧p72_4 False fu (p72 False fu) K0 x2 y3 y4 j27 j28 j29 j30) (fun k5 h L hL_4=>?_) (fun k5 h L hL_4=>?_) ?_
 conv=>cbv
 exact hL_4 _ _ ⟨y5,y6,0,2,⟨(by (conv=>lhs;cbv)<;>(subst hO;rfl)),(by (conv=>lhs;cbv)<;>(subst hO;rfl))⟩,h⟩
 conv=>cbv
 refine z0e hO tiA h (by subst hO;rfl) [0,1,2,6,7,8] [0,1,7000,8000] [] (fun tm m=>∃ (j31:EL) (j32:Int) (j33:Int),((tm=frame 0 59 [(0,.p 0 0 0),(1,.c (.v (.int .i64 x2))),(2,.p 1 1 0),(6,.p 7000 2 0),(7,.p 8000 2 0),(8,.c (.v (.int .i64 0)))]∧m=⟨[(0,.blk 0 [.c (.sl 1 j31 none),.c (.v (.int .i64 j32))]),(1,.blk 1 [.c (.v (.int .i64 y3))]),(7000,.blk 2 [.c (.v (.int .i64 0)),.c (.v (.int .i64 0)),.c (.sl 3 [] (some []))]),(8000,.blk 2 [.c (.v (.int .i64 y4)),.c (.v (.int .i64 j33)),.c (.sl 3 [] (some []))])],3⟩))∧p72_5 False fu (p72 False fu) K0 x2 y3 y4 j31 j32 j33) (fun k6 h L hL_5=>?_) (fun k6 h L hL_5=>?_) ?_
 conv=>cbv
 refine z0d hO [.ref 2] (d_p16 fu O.len hN h) ?_
 intro e Q a b
 conv=>cbv
 refine⟨by subst a hO;rfl,?_⟩
 intro r bs d
 rw [b] at d
 clear a b h
 obtain⟨y34,y35,y36,⟨rfl,rfl⟩,h⟩:=d
 conv=>cbv
 refine z0e hO tiA h (by subst hO;rfl) [0,1,2,6,7,8] [0,1,7000,8000] [] (fun tm m=>∃ (j37:EL) (j38:Int),((tm=frame 0 59 [(0,.p 0 0 0),(1,.c (.v (.int .i64 x2))),(2,.p 1 1 0),(6,.p 7000 2 0),(7,.p 8000 2 0),(8,.c (.v (.int .i64 0)))]∧m=⟨[(0,.blk 0 [.c (.sl 1 j37 none),.c (.v (.int .i64 j38))]),(1,.blk 1 [.c (.v (.int .i64 y3))]),(7000,.blk 2 [.c (.v (.int .i64 0)),.c (.v (.int .i64 0)),.c (.sl 3 [] (some []))]),(8000,.blk 2 [.c (.v (.int .i64 y4)),.c (.v (.int .i64 y34)),.c (.sl 3 [] (some []))])],3⟩))∧p72_6 False fu (p72 False fu) K0 x2 y3 y4 y34 j37 j38) (fun k7 h L hL_6=>?_) (fun k7 h L hL_6=>?_) ?_
 conv=>cbv
 refine z0d hO [.ref 2,.shut] (d_p15 fu O.len hN h) ?_
 intro e Q a b
 conv=>cbv
 refine⟨by subst a hO;rfl,?_⟩
 intro r bs d
 rw [b] at d
 clear a b h
 obtain⟨y39,y40,_,⟨rfl,rfl⟩,h⟩:=d
 conv=>cbv
 exact hL_6 _ _ ⟨y39,y40,⟨(by (conv=>lhs;cbv)<;>(subst hO;rfl)),(by (conv=>lhs;cbv)<;>(subst hO;rfl))⟩,h⟩
 conv=>cbv
 exact hL_6 _ _ ⟨y35,y36,⟨(by (conv=>lhs;cbv)<;>(subst hO;rfl)),(by (conv=>lhs;cbv)<;>(subst hO;rfl))⟩,h⟩
 rintro tm m ⟨j37,j38,hs,h⟩
 unfold p72_6 at h
 obtain⟨rfl,rfl⟩:=hs
 conv=>cbv
 exact hL_5 _ _ ⟨j37,j38,y34,⟨(by (conv=>lhs;cbv)<;>(subst hO;rfl)),(by (conv=>lhs;cbv)<;>(subst hO;rfl))⟩,h⟩
 conv=>cbv
 exact hL_5 _ _ ⟨y5,y6,0,⟨(by (conv=>lhs;cbv)<;>(subst hO;rfl)),(by (conv=>lhs;cbv)<;>(subst hO;rfl))⟩,h⟩
 rintro tm m ⟨j31,j32,j33,hs,h⟩
 unfold p72_5 at h
 obtain⟨rfl,rfl⟩:=hs
 conv=>cbv
 exact hL_4 _ _ ⟨j31,j32,j33,0,⟨(by (conv=>lhs;cbv)<;>(subst hO;rfl)),(by (conv=>lhs;cbv)<;>(subst hO;rfl))⟩,h⟩
 rintro tm m ⟨j27,j28,j29,j30,hs,h⟩
 unfold p72_4 at h
 obtain⟨rfl,rfl⟩:=hs
 conv=>cbv
 exact hL_3 _ _ ⟨j27,j28,j29,j30,⟨(by (conv=>lhs;cbv)<;>(subst hO;rfl)),(by (conv=>lhs;cbv)<;>(subst hO;rfl))⟩,h⟩
 rintro tm m ⟨j7,j8,j9,j10,hs,h⟩
 unfold p72_3 at h
 obtain⟨rfl,rfl⟩:=hs
 conv=>cbv
 refine z0r hO tiA [0,1,2,6,7,39,40] [0,1,7000,8000,56000] [] (fun (n:Nat) tm m=>∃ (z11:EL) (z12:Int) (z13:Int) (z14:EL) (z15:Int),((z14=[]∧tm=frame 0 59 [(0,.p 0 0 0),(1,.c (.v (.int .i64 x2))),(2,.p 1 1 0),(6,.p 7000 2 0),(7,.p 8000 2 0),(39,.c (.v (.int .i64 j10))),(40,.c (.v (.int .i64 z15)))]∧m=⟨[(0,.blk 0 [.c (.sl 1 z11 none),.c (.v (.int .i64 z12))]),(1,.blk 1 [.c (.v (.int .i64 z13))]),(7000,.blk 2 [.c (.v (.int .i64 0)),.c (.v (.int .i64 0)),.c (.sl 3 [] (some []))]),(8000,.blk 2 [.c (.v (.int .i64 y4)),.c (.v (.int .i64 j9)),.c (.sl 3 [] (some []))])],3⟩)∨(tm=frame 0 59 [(0,.p 0 0 0),(1,.c (.v (.int .i64 x2))),(2,.p 1 1 0),(6,.p 7000 2 0),(7,.p 8000 2 0),(39,.c (.v (.int .i64 j10))),(40,.c (.v (.int .i64 z15)))]∧m=⟨[(0,.blk 0 [.c (.sl 1 z11 none),.c (.v (.int .i64 z12))]),(1,.blk 1 [.c (.v (.int .i64 z13))]),(7000,.blk 2 [.c (.v (.int .i64 0)),.c (.v (.int .i64 0)),.c (.sl 3 [] (some []))]),(8000,.blk 2 [.c (.v (.int .i64 y4)),.c (.v (.int .i64 j9)),.t 56000 2 (O.len z14)]),(56000,.arr 2 3 z14 none false)],3⟩))∧p72_2L False fu (p72 False fu) K0 x2 y4 j9 j10 n z11 z12 z13 z14 z15) (fun n=>n) fu ⟨j7,j8,y3,nilE,0,(.inl ⟨rfl,(by (conv=>lhs;cbv)<;>(subst hO;rfl)),(by (conv=>lhs;cbv)<;>(subst hO;rfl))⟩),h⟩ ?_
 rintro n1 tm m L ⟨z11,z12,z13,z14,z15,hs,h⟩ hLn1
 (cases n1 with
 | zero=>rw [p72_2L] at h;exact h.elim
 | succ n1 =>
 rw [p72_2L] at h
 unfold p72_2 at h
 rcases hs with hs | hs
 obtain⟨rfl,rfl,rfl⟩:=hs
 conv=>cbv
 refine br_h hO h (by subst hO;rfl) (fun k2 h=>?_) (fun k2 h=>?_)
 conv=>cbv
 refine z0b hO ?_
 conv=>cbv
 refine z0e hO tiA h (by subst hO;rfl) [0,1,2,6,7,39,40] [0,1,7000,8000,56000] [] (fun tm m=>∃ (j16:EL) (j17:Int) (j18:Int) (j19:EL),((tm=frame 0 59 [(0,.p 0 0 0),(1,.c (.v (.int .i64 x2))),(2,.p 1 1 0),(6,.p 7000 2 0),(7,.p 8000 2 0),(39,.c (.v (.int .i64 j10))),(40,.c (.v (.int .i64 z15)))]∧m=⟨[(0,.blk 0 [.c (.sl 1 j16 none),.c (.v (.int .i64 j17))]),(1,.blk 1 [.c (.v (.int .i64 j18))]),(7000,.blk 2 [.c (.v (.int .i64 0)),.c (.v (.int .i64 0)),.c (.sl 3 [] (some []))]),(8000,.blk 2 [.c (.v (.int .i64 y4)),.c (.v (.int .i64 j9)),.t 56000 2 (O.len j19)]),(56000,.arr 2 3 j19 none false)],3⟩)∨(j19=[]∧tm=frame 0 59 [(0,.p 0 0 0),(1,.c (.v (.int .i64 x2))),(2,.p 1 1 0),(6,.p 7000 2 0),(7,.p 8000 2 0),(39,.c (.v (.int .i64 j10))),(40,.c (.v (.int .i64 z15)))]∧m=⟨[(0,.blk 0 [.c (.sl 1 j16 none),.c (.v (.int .i64 j17))]),(1,.blk 1 [.c (.v (.int .i64 j18))]),(7000,.blk 2 [.c (.v (.int .i64 0)),.c (.v (.int .i64 0)),.c (.sl 3 [] (some []))]),(8000,.blk 2 [.c (.v (.int .i64 y4)),.c (.v (.int .i64 j9)),.c (.sl 3 [] (some []))])],3⟩))∧p72_1 False fu (p72 False fu) K0 (p72_2L False fu (p72 False fu) K0 x2 y4 j9 j10 n1) z15 j16 j17 j18 j19) (fun k3 h L hL_1=>?_) (fun k3 h L hL_1=>?_) ?_
 conv=>cbv
 refine z0o hO tiA [[0,1],[],[],[],[]] [(0,true,false),(1,true,false),(2,true,false),(3,true,false),(4,true,false),(5,true,false),(6,false,false),(7,false,false),(8,false,true),(9,true,true),(10,false,true)] (by kernel_rfl) ?_
 conv=>cbv
 refine z0d hO [.ref 2,.shut,.ref 1] (ih_p72 O.len hN h) ?_
 intro e Q a b
 conv=>cbv
 refine⟨by subst a hO;rfl,?_⟩
 intro r bs d
 rw [b] at d
 clear a b h
 obtain⟨y20,y21,y22,y23,y24,y25,_,⟨rfl,rfl⟩,h⟩:=d
 conv=>cbv
 refine agr hO rfl rfl ?_
 refine agr hO rfl rfl ?_
 refine z0z hO h (fun g=>(by subst hO;exact g)) (fun h=>?_)
 conv=>cbv
 refine and_h h (fun g=>(by subst hO;exact g)) (fun h=>?_)
 refine z2i hO (by subst hO;exact List.cons_ne_nil _ _) ?_
 conv=>cbv
 refine z0b hO ?_
 conv=>cbv
 exact hL_1 _ _ ⟨y23,y24,y25,(nilE++(List.take 1 [[(CV.v (.int .i64 y20)),(CV.v (.int .i64 y21)),(CV.sl 3 y22 none)]])),(.inl ⟨(by (conv=>lhs;cbv)<;>(subst hO;rfl)),(by (conv=>lhs;cbv)<;>(subst hO;rfl))⟩),h⟩
 conv=>cbv
 exact hL_1 _ _ ⟨z11,z12,z13,nilE,(.inr ⟨rfl,(by (conv=>lhs;cbv)<;>(subst hO;rfl)),(by (conv=>lhs;cbv)<;>(subst hO;rfl))⟩),h⟩
 rintro tm m ⟨j16,j17,j18,j19,hs,h⟩
 unfold p72_1 at h
 rcases hs with hs | hs
 obtain⟨rfl,rfl⟩:=hs
 conv=>cbv
 exact hLn1 n1 _ _ (Nat.lt_succ_self n1) ⟨j16,j17,j18,j19,z0c .add .i64 z15 1,(.inr ⟨(by (conv=>lhs;cbv)<;>(subst hO;rfl)),(by (conv=>lhs;cbv)<;>(subst hO;rfl))⟩),h⟩
 obtain⟨rfl,rfl,rfl⟩:=hs
 conv=>cbv
 exact hLn1 n1 _ _ (Nat.lt_succ_self n1) ⟨j16,j17,j18,nilE,z0c .add .i64 z15 1,(.inl ⟨rfl,(by (conv=>lhs;cbv)<;>(subst hO;rfl)),(by (conv=>lhs;cbv)<;>(subst hO;rfl))⟩),h⟩
 conv=>cbv
 rw [b]
 exact⟨y4,j9,nilE,z11,z12,z13,_,⟨(by subst hO;rfl),(by subst hO;rfl)⟩,h⟩
 obtain⟨rfl,rfl⟩:=hs
 conv=>cbv
 refine br_h hO h (by subst hO;rfl) (fun k2 h=>?_) (fun k2 h=>?_)
 conv=>cbv
 refine z0b hO ?_
 conv=>cbv
 refine z0e hO tiA h (by subst hO;rfl) [0,1,2,6,7,39,40] [0,1,7000,8000,56000] [] (fun tm m=>∃ (j16:EL) (j17:Int) (j18:Int) (j19:EL),((tm=frame 0 59 [(0,.p 0 0 0),(1,.c (.v (.int .i64 x2))),(2,.p 1 1 0),(6,.p 7000 2 0),(7,.p 8000 2 0),(39,.c (.v (.int .i64 j10))),(40,.c (.v (.int .i64 z15)))]∧m=⟨[(0,.blk 0 [.c (.sl 1 j16 none),.c (.v (.int .i64 j17))]),(1,.blk 1 [.c (.v (.int .i64 j18))]),(7000,.blk 2 [.c (.v (.int .i64 0)),.c (.v (.int .i64 0)),.c (.sl 3 [] (some []))]),(8000,.blk 2 [.c (.v (.int .i64 y4)),.c (.v (.int .i64 j9)),.t 56000 2 (O.len j19)]),(56000,.arr 2 3 j19 none false)],3⟩))∧p72_1 False fu (p72 False fu) K0 (p72_2L False fu (p72 False fu) K0 x2 y4 j9 j10 n1) z15 j16 j17 j18 j19) (fun k3 h L hL_1=>?_) (fun k3 h L hL_1=>?_) ?_
 conv=>cbv
 refine z0o hO tiA [[0,1],[],[],[],[]] [(0,true,false),(1,true,false),(2,true,false),(3,true,false),(4,true,false),(5,true,false),(6,false,false),(7,false,false),(8,false,true),(9,true,true),(10,false,true)] (by kernel_rfl) ?_
 conv=>cbv
 refine z0d hO [.ref 2,.shut,.ref 1] (ih_p72 O.len hN h) ?_
 intro e Q a b
 conv=>cbv
 refine⟨by subst a hO;rfl,?_⟩
 intro r bs d
 rw [b] at d
 clear a b h
 obtain⟨y20,y21,y22,y23,y24,y25,_,⟨rfl,rfl⟩,h⟩:=d
 conv=>cbv
 refine agr hO rfl rfl ?_
 refine agr hO rfl rfl ?_
 refine z0z hO h (fun g=>(by subst hO;exact g)) (fun h=>?_)
 conv=>cbv
 refine⟨(by subst hO;rfl),?_⟩
 refine and_h h (fun g=>(by subst hO;exact g)) (fun h=>?_)
 refine z0b hO ?_
 conv=>cbv
 exact hL_1 _ _ ⟨y23,y24,y25,(z14++(List.take 1 [[(CV.v (.int .i64 y20)),(CV.v (.int .i64 y21)),(CV.sl 3 y22 none)]])),⟨(by (conv=>lhs;cbv)<;>(subst hO;rfl)),(by (conv=>lhs;cbv)<;>(subst hO;rfl))⟩,h⟩
 conv=>cbv
 exact hL_1 _ _ ⟨z11,z12,z13,z14,⟨(by (conv=>lhs;cbv)<;>(subst hO;rfl)),(by (conv=>lhs;cbv)<;>(subst hO;rfl))⟩,h⟩
 rintro tm m ⟨j16,j17,j18,j19,hs,h⟩
 unfold p72_1 at h
 obtain⟨rfl,rfl⟩:=hs
 conv=>cbv
 exact hLn1 n1 _ _ (Nat.lt_succ_self n1) ⟨j16,j17,j18,j19,z0c .add .i64 z15 1,(.inr ⟨(by (conv=>lhs;cbv)<;>(subst hO;rfl)),(by (conv=>lhs;cbv)<;>(subst hO;rfl))⟩),h⟩
 conv=>cbv
 refine z0k hO ?_
 conv=>cbv
 rw [b]
 exact⟨y4,j9,z14,z11,z12,z13,_,⟨(by subst hO;rfl),(by subst hO;rfl)⟩,h⟩)
theorem dd_p72 (fu:Nat):D_p72 fu:=by
 induction fu with
 | zero=>unfold D_p72;intros;rename_i h;rw [p72] at h;exact h.elim
 | succ n ih =>
  exact (by unfold D_p72;intro K0 L hN x0 x1 x2 x3 h;exact b_p72 n ih L hN (by rw [p72] at h;exact h))
theorem d_p72 (fu:Nat):D_p72 fu:=dd_p72 fu
theorem d_p62 (fu:Nat){K0:Int→Int→EL→EL→Int→Prop}(L:EL→Nat)(hN:L=List.length){x0:EL}{x1:Int}(h:p62 False fu K0 x0 x1):Den Try.prog G0 62 [.ptr [.c (.sl 1 x0 none),.c (.v (.int .i64 x1))]] (fun r bs=>(∃ (y0 y1:Int) (y2 y3:EL) (y4:Int),(r=.agg [.c (.v (.int .i64 y0)),.c (.v (.int .i64 y1)),.c (.sl 3 y2 none)]∧bs=[.ptr [.c (.sl 1 y3 none),.c (.v (.int .i64 y4))]])∧K0 y0 y1 y2 y3 y4)):=by
 obtain⟨O,hO⟩:∃ O,O=std 1 T G0 (Den Try.prog G0):=⟨_,rfl⟩
 have hLO:L=O.len:=by rw [hN,hO];rfl
 subst hLO
 refine den_h hO tiA mixed tabOk (fn:=Try.f62) (sh:=true) (by kernel_rfl) rfl rfl rfl rfl ?_
 intro Q b
 unfold p62 at h
 conv=>cbv
 refine z0d hO [.ref 2,.shut,.ref 1] (d_p72 fu O.len hN h) ?_
 intro e Q a b
 conv=>cbv
 refine⟨by subst a hO;rfl,?_⟩
 intro r bs d
 rw [b] at d
 clear a b h
 obtain⟨y1,y2,y3,y4,y5,y6,_,⟨rfl,rfl⟩,h⟩:=d
 conv=>cbv
 rw [b]
 exact⟨y1,y2,y3,y4,y5,⟨(by subst hO;rfl),(by subst hO;rfl)⟩,h⟩
end Go.Proofs.Ytioiigabeoaneaa
