/- A part of the proof. Conditions: none. -/
import Derived.Test.YtioiigabeoaneaaRQ8
import Derived.Test.YtioiigabeoaneaaRQ5
import Derived.Test.YtioiigabeoaneaaRQ9
import Derived.Test.YtioiigabeoaneaaRQ10
import Derived.Test.YtioiigabeoaneaaRQ7
import Derived.Test.YtioiigabeoaneaaRQ6
namespace Go.Proofs.Ytioiigabeoaneaa
open Go V
set_option maxRecDepth 100000
set_option maxHeartbeats 4000000
theorem d_p6 (fu:Nat){K0:Int→Int→Int→Int→Int→Int→Int→Int→Int→Int→Int→ByteArray→ByteArray→Int→Int→ByteArray→EL→EL→Int→Int→ByteArray→EL→EL→EL→Int→Int→ByteArray→EL→EL→Int→Int→ByteArray→EL→EL→Int→Prop}(L:EL→Nat)(hN:L=List.length){x0:EL}(h:p6 False fu K0 x0):Den Try.prog G0 6 [.c (.sl 1 x0 none)] (fun r bs=>(∃ (y0 y1 y2 y3 y4 y5 y6 y7 y8 y9 y10:Int) (y11 y12:ByteArray) (y13 y14:Int) (y15:ByteArray) (y16 y17:EL) (y18 y19:Int) (y20:ByteArray) (y21 y22 y23:EL) (y24 y25:Int) (y26:ByteArray) (y27 y28:EL) (y29 y30:Int) (y31:ByteArray) (y32 y33:EL) (y34:Int) (o0:OV),(r=.tup [.agg [.c (.v (.int .i64 y0)),.c (.v (.int .i64 y1)),.c (.v (.int .i64 y2)),.c (.v (.int .i64 y3)),.c (.v (.int .u64 y4)),.c (.v (.int .u64 y5)),.c (.v (.int .u64 y6)),.c (.v (.int .u64 y7)),.c (.v (.int .i64 y8)),.c (.v (.int .i64 y9)),.c (.v (.int .i64 y10)),.c (.v (.string y11)),.c (.v (.string y12)),.c (.v (.int .i64 y13)),.c (.v (.int .i64 y14)),.c (.v (.string y15)),.c (.sl 3 y16 none),.c (.sl 5 y17 none),.c (.v (.int .i64 y18)),.c (.v (.int .i64 y19)),.c (.v (.string y20)),.c (.sl 3 y21 none),.c (.sl 5 y22 none),.c (.sl 6 y23 none),.c (.v (.int .i64 y24)),.c (.v (.int .i64 y25)),.c (.v (.string y26)),.c (.sl 3 y27 none),.c (.sl 5 y28 none),.c (.v (.int .i64 y29)),.c (.v (.int .i64 y30)),.c (.v (.string y31)),.c (.sl 3 y32 none),.c (.sl 5 y33 none)],.c (.v (.int .i64 y34))]∧bs=[o0])∧K0 y0 y1 y2 y3 y4 y5 y6 y7 y8 y9 y10 y11 y12 y13 y14 y15 y16 y17 y18 y19 y20 y21 y22 y23 y24 y25 y26 y27 y28 y29 y30 y31 y32 y33 y34)):=by
 obtain⟨O,hO⟩:∃ O,O=std 0 T G0 (Den Try.prog G0):=⟨_,rfl⟩
 have hLO:L=O.len:=by rw [hN,hO];rfl
 subst hLO
 refine den_h hO tiA mixed tabOk (fn:=Try.f6) (sh:=true) (by kernel_rfl) rfl rfl rfl rfl ?_
 intro Q b
 unfold p6 at h
 conv=>cbv
 refine z0d hO [.ref 2,.shut,.shut] (d_p13 fu O.len hN h) ?_
 intro e Q a b
 conv=>cbv
 refine⟨by subst a hO;rfl,?_⟩
 intro r bs d
 rw [b] at d
 clear a b h
 obtain⟨y1,y2,y3,_,_,⟨rfl,rfl⟩,h⟩:=d
 conv=>cbv
 refine z0d hO [.shut] (d_p14 fu O.len hN h) ?_
 intro e Q a b
 conv=>cbv
 refine⟨by subst a hO;rfl,?_⟩
 intro r bs d
 rw [b] at d
 clear a b h
 obtain⟨y4,y5,y6,y7,y8,y9,y10,y11,y12,_,⟨rfl,rfl⟩,h⟩:=d
 conv=>cbv
 refine z0e hO tiA h (by subst hO;rfl) [2,4,5,6] [3000,6000,7000,12000,7777777] [] (fun tm m=>∃ (j13:EL) (j14:Int),((tm=frame 0 136 [(2,.p 3000 0 0),(4,.p 12000 0 0),(5,.p 6000 0 0),(6,.p 7000 0 0)]∧m=⟨[(3000,.blk 0 [.c (.v (.int .i64 0)),.c (.v (.int .i64 0)),.c (.v (.int .i64 0)),.c (.v (.int .i64 0)),.c (.v (.int .u64 0)),.c (.v (.int .u64 0)),.c (.v (.int .u64 0)),.c (.v (.int .u64 0)),.c (.v (.int .i64 0)),.c (.v (.int .i64 0)),.c (.v (.int .i64 0)),.c (.v (.string ⟨#[]⟩)),.c (.v (.string ⟨#[]⟩)),.c (.v (.int .i64 0)),.c (.v (.int .i64 0)),.c (.v (.string ⟨#[]⟩)),.c (.sl 3 nilE none),.c (.sl 5 nilE none),.c (.v (.int .i64 0)),.c (.v (.int .i64 0)),.c (.v (.string ⟨#[]⟩)),.c (.sl 3 nilE none),.c (.sl 5 nilE none),.c (.sl 6 nilE none),.c (.v (.int .i64 0)),.c (.v (.int .i64 0)),.c (.v (.string ⟨#[]⟩)),.c (.sl 3 nilE none),.c (.sl 5 nilE none),.c (.v (.int .i64 0)),.c (.v (.int .i64 0)),.c (.v (.string ⟨#[]⟩)),.c (.sl 3 nilE none),.c (.sl 5 nilE none)]),(6000,.blk 0 [.c (.v (.int .i64 y1)),.c (.v (.int .i64 0)),.c (.v (.int .i64 0)),.c (.v (.int .i64 0)),.c (.v (.int .u64 0)),.c (.v (.int .u64 0)),.c (.v (.int .u64 0)),.c (.v (.int .u64 0)),.c (.v (.int .i64 0)),.c (.v (.int .i64 0)),.c (.v (.int .i64 0)),.c (.v (.string ⟨#[]⟩)),.c (.v (.string ⟨#[]⟩)),.c (.v (.int .i64 0)),.c (.v (.int .i64 0)),.c (.v (.string ⟨#[]⟩)),.c (.sl 3 nilE none),.c (.sl 5 nilE none),.c (.v (.int .i64 0)),.c (.v (.int .i64 0)),.c (.v (.string ⟨#[]⟩)),.c (.sl 3 nilE none),.c (.sl 5 nilE none),.c (.sl 6 nilE none),.c (.v (.int .i64 0)),.c (.v (.int .i64 0)),.c (.v (.string ⟨#[]⟩)),.c (.sl 3 nilE none),.c (.sl 5 nilE none),.c (.v (.int .i64 0)),.c (.v (.int .i64 0)),.c (.v (.string ⟨#[]⟩)),.c (.sl 3 nilE none),.c (.sl 5 nilE none)]),(7000,.blk 0 [.c (.v (.bool y4)),.c (.v (.bool y5)),.c (.v (.bool y6)),.c (.v (.bool y7)),.c (.v (.bool y8)),.c (.v (.bool y9)),.c (.v (.bool y10)),.c (.v (.bool y11))]),(12000,.blk 0 [.c (.sl 1 j13 none),.c (.v (.int .i64 j14))])],1⟩))∧p6_13 False fu K0 y1 y4 y5 y6 y7 y8 y9 y10 y11 j13 j14) (fun k14 h L hL_13=>?_) (fun k14 h L hL_13=>?_) ?_
 conv=>cbv
 refine z0d hO [.ref 2,.shut] (d_p15 fu O.len hN h) ?_
 intro e Q a b
 conv=>cbv
 refine⟨by subst a hO;rfl,?_⟩
 intro r bs d
 rw [b] at d
 clear a b h
 obtain⟨y125,y126,_,⟨rfl,rfl⟩,h⟩:=d
 conv=>cbv
 exact hL_13 _ _ ⟨y125,y126,⟨(by (conv=>lhs;cbv)<;>(subst hO;rfl)),(by (conv=>lhs;cbv)<;>(subst hO;rfl))⟩,h⟩
 conv=>cbv
 exact hL_13 _ _ ⟨y2,y3,⟨(by (conv=>lhs;cbv)<;>(subst hO;rfl)),(by (conv=>lhs;cbv)<;>(subst hO;rfl))⟩,h⟩
 rintro tm m ⟨j13,j14,hs,h⟩
 unfold p6_13 at h
 obtain⟨rfl,rfl⟩:=hs
 conv=>cbv
 refine z0e hO tiA h (by subst hO;rfl) [2,4,5,6] [3000,6000,7000,12000,7777777] [] (fun tm m=>∃ (j15:EL) (j16:Int) (j17:Int) (j18:Int),((tm=frame 0 136 [(2,.p 3000 0 0),(4,.p 12000 0 0),(5,.p 6000 0 0),(6,.p 7000 0 0)]∧m=⟨[(3000,.blk 0 [.c (.v (.int .i64 0)),.c (.v (.int .i64 0)),.c (.v (.int .i64 0)),.c (.v (.int .i64 0)),.c (.v (.int .u64 0)),.c (.v (.int .u64 0)),.c (.v (.int .u64 0)),.c (.v (.int .u64 0)),.c (.v (.int .i64 0)),.c (.v (.int .i64 0)),.c (.v (.int .i64 0)),.c (.v (.string ⟨#[]⟩)),.c (.v (.string ⟨#[]⟩)),.c (.v (.int .i64 0)),.c (.v (.int .i64 0)),.c (.v (.string ⟨#[]⟩)),.c (.sl 3 nilE none),.c (.sl 5 nilE none),.c (.v (.int .i64 0)),.c (.v (.int .i64 0)),.c (.v (.string ⟨#[]⟩)),.c (.sl 3 nilE none),.c (.sl 5 nilE none),.c (.sl 6 nilE none),.c (.v (.int .i64 0)),.c (.v (.int .i64 0)),.c (.v (.string ⟨#[]⟩)),.c (.sl 3 nilE none),.c (.sl 5 nilE none),.c (.v (.int .i64 0)),.c (.v (.int .i64 0)),.c (.v (.string ⟨#[]⟩)),.c (.sl 3 nilE none),.c (.sl 5 nilE none)]),(6000,.blk 0 [.c (.v (.int .i64 y1)),.c (.v (.int .i64 0)),.c (.v (.int .i64 j17)),.c (.v (.int .i64 j18)),.c (.v (.int .u64 0)),.c (.v (.int .u64 0)),.c (.v (.int .u64 0)),.c (.v (.int .u64 0)),.c (.v (.int .i64 0)),.c (.v (.int .i64 0)),.c (.v (.int .i64 0)),.c (.v (.string ⟨#[]⟩)),.c (.v (.string ⟨#[]⟩)),.c (.v (.int .i64 0)),.c (.v (.int .i64 0)),.c (.v (.string ⟨#[]⟩)),.c (.sl 3 nilE none),.c (.sl 5 nilE none),.c (.v (.int .i64 0)),.c (.v (.int .i64 0)),.c (.v (.string ⟨#[]⟩)),.c (.sl 3 nilE none),.c (.sl 5 nilE none),.c (.sl 6 nilE none),.c (.v (.int .i64 0)),.c (.v (.int .i64 0)),.c (.v (.string ⟨#[]⟩)),.c (.sl 3 nilE none),.c (.sl 5 nilE none),.c (.v (.int .i64 0)),.c (.v (.int .i64 0)),.c (.v (.string ⟨#[]⟩)),.c (.sl 3 nilE none),.c (.sl 5 nilE none)]),(7000,.blk 0 [.c (.v (.bool y4)),.c (.v (.bool y5)),.c (.v (.bool y6)),.c (.v (.bool y7)),.c (.v (.bool y8)),.c (.v (.bool y9)),.c (.v (.bool y10)),.c (.v (.bool y11))]),(12000,.blk 0 [.c (.sl 1 j15 none),.c (.v (.int .i64 j16))])],1⟩))∧p6_12 False fu K0 y1 y5 y6 y7 y8 y9 y10 y11 j15 j16 j17 j18) (fun k13 h L hL_12=>?_) (fun k13 h L hL_12=>?_) ?_
 conv=>cbv
 refine z0d hO [.ref 2] (d_p16 fu O.len hN h) ?_
 intro e Q a b
 conv=>cbv
 refine⟨by subst a hO;rfl,?_⟩
 intro r bs d
 rw [b] at d
 clear a b h
 obtain⟨y119,y120,y121,⟨rfl,rfl⟩,h⟩:=d
 conv=>cbv
 refine z0d hO [.ref 2] (d_p16 fu O.len hN h) ?_
 intro e Q a b
 conv=>cbv
 refine⟨by subst a hO;rfl,?_⟩
 intro r bs d
 rw [b] at d
 clear a b h
 obtain⟨y122,y123,y124,⟨rfl,rfl⟩,h⟩:=d
 conv=>cbv
 exact hL_12 _ _ ⟨y123,y124,y119,y122,⟨(by (conv=>lhs;cbv)<;>(subst hO;rfl)),(by (conv=>lhs;cbv)<;>(subst hO;rfl))⟩,h⟩
 conv=>cbv
 exact hL_12 _ _ ⟨j13,j14,0,0,⟨(by (conv=>lhs;cbv)<;>(subst hO;rfl)),(by (conv=>lhs;cbv)<;>(subst hO;rfl))⟩,h⟩
 rintro tm m ⟨j15,j16,j17,j18,hs,h⟩
 unfold p6_12 at h
 obtain⟨rfl,rfl⟩:=hs
 conv=>cbv
 refine z0e hO tiA h (by subst hO;rfl) [2,4,5,6] [3000,6000,7000,12000,7777777] [] (fun tm m=>∃ (j19:EL) (j20:Int) (j21:Int) (j22:Int),((tm=frame 0 136 [(2,.p 3000 0 0),(4,.p 12000 0 0),(5,.p 6000 0 0),(6,.p 7000 0 0)]∧m=⟨[(3000,.blk 0 [.c (.v (.int .i64 0)),.c (.v (.int .i64 0)),.c (.v (.int .i64 0)),.c (.v (.int .i64 0)),.c (.v (.int .u64 0)),.c (.v (.int .u64 0)),.c (.v (.int .u64 0)),.c (.v (.int .u64 0)),.c (.v (.int .i64 0)),.c (.v (.int .i64 0)),.c (.v (.int .i64 0)),.c (.v (.string ⟨#[]⟩)),.c (.v (.string ⟨#[]⟩)),.c (.v (.int .i64 0)),.c (.v (.int .i64 0)),.c (.v (.string ⟨#[]⟩)),.c (.sl 3 nilE none),.c (.sl 5 nilE none),.c (.v (.int .i64 0)),.c (.v (.int .i64 0)),.c (.v (.string ⟨#[]⟩)),.c (.sl 3 nilE none),.c (.sl 5 nilE none),.c (.sl 6 nilE none),.c (.v (.int .i64 0)),.c (.v (.int .i64 0)),.c (.v (.string ⟨#[]⟩)),.c (.sl 3 nilE none),.c (.sl 5 nilE none),.c (.v (.int .i64 0)),.c (.v (.int .i64 0)),.c (.v (.string ⟨#[]⟩)),.c (.sl 3 nilE none),.c (.sl 5 nilE none)]),(6000,.blk 0 [.c (.v (.int .i64 y1)),.c (.v (.int .i64 0)),.c (.v (.int .i64 j17)),.c (.v (.int .i64 j18)),.c (.v (.int .u64 j21)),.c (.v (.int .u64 j22)),.c (.v (.int .u64 0)),.c (.v (.int .u64 0)),.c (.v (.int .i64 0)),.c (.v (.int .i64 0)),.c (.v (.int .i64 0)),.c (.v (.string ⟨#[]⟩)),.c (.v (.string ⟨#[]⟩)),.c (.v (.int .i64 0)),.c (.v (.int .i64 0)),.c (.v (.string ⟨#[]⟩)),.c (.sl 3 nilE none),.c (.sl 5 nilE none),.c (.v (.int .i64 0)),.c (.v (.int .i64 0)),.c (.v (.string ⟨#[]⟩)),.c (.sl 3 nilE none),.c (.sl 5 nilE none),.c (.sl 6 nilE none),.c (.v (.int .i64 0)),.c (.v (.int .i64 0)),.c (.v (.string ⟨#[]⟩)),.c (.sl 3 nilE none),.c (.sl 5 nilE none),.c (.v (.int .i64 0)),.c (.v (.int .i64 0)),.c (.v (.string ⟨#[]⟩)),.c (.sl 3 nilE none),.c (.sl 5 nilE none)]),(7000,.blk 0 [.c (.v (.bool y4)),.c (.v (.bool y5)),.c (.v (.bool y6)),.c (.v (.bool y7)),.c (.v (.bool y8)),.c (.v (.bool y9)),.c (.v (.bool y10)),.c (.v (.bool y11))]),(12000,.blk 0 [.c (.sl 1 j19 none),.c (.v (.int .i64 j20))])],1⟩))∧p6_11 False fu K0 y1 y6 y7 y8 y9 y10 y11 j17 j18 j19 j20 j21 j22) (fun k12 h L hL_11=>?_) (fun k12 h L hL_11=>?_) ?_
 conv=>cbv
 refine z0d hO [.ref 2] (d_p17 fu O.len hN h) ?_
 intro e Q a b
 conv=>cbv
 refine⟨by subst a hO;rfl,?_⟩
 intro r bs d
 rw [b] at d
 clear a b h
 obtain⟨y115,y116,y117,y118,⟨rfl,rfl⟩,h⟩:=d
 conv=>cbv
 exact hL_11 _ _ ⟨y117,y118,y115,y116,⟨(by (conv=>lhs;cbv)<;>(subst hO;rfl)),(by (conv=>lhs;cbv)<;>(subst hO;rfl))⟩,h⟩
 conv=>cbv
 exact hL_11 _ _ ⟨j15,j16,0,0,⟨(by (conv=>lhs;cbv)<;>(subst hO;rfl)),(by (conv=>lhs;cbv)<;>(subst hO;rfl))⟩,h⟩
 rintro tm m ⟨j19,j20,j21,j22,hs,h⟩
 unfold p6_11 at h
 obtain⟨rfl,rfl⟩:=hs
 conv=>cbv
 refine z0e hO tiA h (by subst hO;rfl) [2,4,5,6] [3000,6000,7000,12000,7777777] [] (fun tm m=>∃ (j23:EL) (j24:Int) (j25:Int) (j26:Int),((tm=frame 0 136 [(2,.p 3000 0 0),(4,.p 12000 0 0),(5,.p 6000 0 0),(6,.p 7000 0 0)]∧m=⟨[(3000,.blk 0 [.c (.v (.int .i64 0)),.c (.v (.int .i64 0)),.c (.v (.int .i64 0)),.c (.v (.int .i64 0)),.c (.v (.int .u64 0)),.c (.v (.int .u64 0)),.c (.v (.int .u64 0)),.c (.v (.int .u64 0)),.c (.v (.int .i64 0)),.c (.v (.int .i64 0)),.c (.v (.int .i64 0)),.c (.v (.string ⟨#[]⟩)),.c (.v (.string ⟨#[]⟩)),.c (.v (.int .i64 0)),.c (.v (.int .i64 0)),.c (.v (.string ⟨#[]⟩)),.c (.sl 3 nilE none),.c (.sl 5 nilE none),.c (.v (.int .i64 0)),.c (.v (.int .i64 0)),.c (.v (.string ⟨#[]⟩)),.c (.sl 3 nilE none),.c (.sl 5 nilE none),.c (.sl 6 nilE none),.c (.v (.int .i64 0)),.c (.v (.int .i64 0)),.c (.v (.string ⟨#[]⟩)),.c (.sl 3 nilE none),.c (.sl 5 nilE none),.c (.v (.int .i64 0)),.c (.v (.int .i64 0)),.c (.v (.string ⟨#[]⟩)),.c (.sl 3 nilE none),.c (.sl 5 nilE none)]),(6000,.blk 0 [.c (.v (.int .i64 y1)),.c (.v (.int .i64 0)),.c (.v (.int .i64 j17)),.c (.v (.int .i64 j18)),.c (.v (.int .u64 j21)),.c (.v (.int .u64 j22)),.c (.v (.int .u64 j25)),.c (.v (.int .u64 j26)),.c (.v (.int .i64 0)),.c (.v (.int .i64 0)),.c (.v (.int .i64 0)),.c (.v (.string ⟨#[]⟩)),.c (.v (.string ⟨#[]⟩)),.c (.v (.int .i64 0)),.c (.v (.int .i64 0)),.c (.v (.string ⟨#[]⟩)),.c (.sl 3 nilE none),.c (.sl 5 nilE none),.c (.v (.int .i64 0)),.c (.v (.int .i64 0)),.c (.v (.string ⟨#[]⟩)),.c (.sl 3 nilE none),.c (.sl 5 nilE none),.c (.sl 6 nilE none),.c (.v (.int .i64 0)),.c (.v (.int .i64 0)),.c (.v (.string ⟨#[]⟩)),.c (.sl 3 nilE none),.c (.sl 5 nilE none),.c (.v (.int .i64 0)),.c (.v (.int .i64 0)),.c (.v (.string ⟨#[]⟩)),.c (.sl 3 nilE none),.c (.sl 5 nilE none)]),(7000,.blk 0 [.c (.v (.bool y4)),.c (.v (.bool y5)),.c (.v (.bool y6)),.c (.v (.bool y7)),.c (.v (.bool y8)),.c (.v (.bool y9)),.c (.v (.bool y10)),.c (.v (.bool y11))]),(12000,.blk 0 [.c (.sl 1 j23 none),.c (.v (.int .i64 j24))])],1⟩))∧p6_10 False fu K0 y1 y7 y8 y9 y10 y11 j17 j18 j21 j22 j23 j24 j25 j26) (fun k11 h L hL_10=>?_) (fun k11 h L hL_10=>?_) ?_
 conv=>cbv
 refine z0d hO [.ref 2] (d_p17 fu O.len hN h) ?_
 intro e Q a b
 conv=>cbv
 refine⟨by subst a hO;rfl,?_⟩
 intro r bs d
 rw [b] at d
 clear a b h
 obtain⟨y111,y112,y113,y114,⟨rfl,rfl⟩,h⟩:=d
 conv=>cbv
 exact hL_10 _ _ ⟨y113,y114,y111,y112,⟨(by (conv=>lhs;cbv)<;>(subst hO;rfl)),(by (conv=>lhs;cbv)<;>(subst hO;rfl))⟩,h⟩
 conv=>cbv
 exact hL_10 _ _ ⟨j19,j20,0,0,⟨(by (conv=>lhs;cbv)<;>(subst hO;rfl)),(by (conv=>lhs;cbv)<;>(subst hO;rfl))⟩,h⟩
 rintro tm m ⟨j23,j24,j25,j26,hs,h⟩
 unfold p6_10 at h
 obtain⟨rfl,rfl⟩:=hs
 conv=>cbv
 refine z0g hO tiA [2,4,5,6,60] [3000,6000,7000,12000,7777777] [] (fun tm m=>∃ (j27:Bool),((tm=frame 0 136 [(2,.p 3000 0 0),(4,.p 12000 0 0),(5,.p 6000 0 0),(6,.p 7000 0 0),(60,.c (.v (.bool j27)))]∧m=⟨[(3000,.blk 0 [.c (.v (.int .i64 0)),.c (.v (.int .i64 0)),.c (.v (.int .i64 0)),.c (.v (.int .i64 0)),.c (.v (.int .u64 0)),.c (.v (.int .u64 0)),.c (.v (.int .u64 0)),.c (.v (.int .u64 0)),.c (.v (.int .i64 0)),.c (.v (.int .i64 0)),.c (.v (.int .i64 0)),.c (.v (.string ⟨#[]⟩)),.c (.v (.string ⟨#[]⟩)),.c (.v (.int .i64 0)),.c (.v (.int .i64 0)),.c (.v (.string ⟨#[]⟩)),.c (.sl 3 nilE none),.c (.sl 5 nilE none),.c (.v (.int .i64 0)),.c (.v (.int .i64 0)),.c (.v (.string ⟨#[]⟩)),.c (.sl 3 nilE none),.c (.sl 5 nilE none),.c (.sl 6 nilE none),.c (.v (.int .i64 0)),.c (.v (.int .i64 0)),.c (.v (.string ⟨#[]⟩)),.c (.sl 3 nilE none),.c (.sl 5 nilE none),.c (.v (.int .i64 0)),.c (.v (.int .i64 0)),.c (.v (.string ⟨#[]⟩)),.c (.sl 3 nilE none),.c (.sl 5 nilE none)]),(6000,.blk 0 [.c (.v (.int .i64 y1)),.c (.v (.int .i64 0)),.c (.v (.int .i64 j17)),.c (.v (.int .i64 j18)),.c (.v (.int .u64 j21)),.c (.v (.int .u64 j22)),.c (.v (.int .u64 j25)),.c (.v (.int .u64 j26)),.c (.v (.int .i64 0)),.c (.v (.int .i64 0)),.c (.v (.int .i64 0)),.c (.v (.string ⟨#[]⟩)),.c (.v (.string ⟨#[]⟩)),.c (.v (.int .i64 0)),.c (.v (.int .i64 0)),.c (.v (.string ⟨#[]⟩)),.c (.sl 3 nilE none),.c (.sl 5 nilE none),.c (.v (.int .i64 0)),.c (.v (.int .i64 0)),.c (.v (.string ⟨#[]⟩)),.c (.sl 3 nilE none),.c (.sl 5 nilE none),.c (.sl 6 nilE none),.c (.v (.int .i64 0)),.c (.v (.int .i64 0)),.c (.v (.string ⟨#[]⟩)),.c (.sl 3 nilE none),.c (.sl 5 nilE none),.c (.v (.int .i64 0)),.c (.v (.int .i64 0)),.c (.v (.string ⟨#[]⟩)),.c (.sl 3 nilE none),.c (.sl 5 nilE none)]),(7000,.blk 0 [.c (.v (.bool y4)),.c (.v (.bool y5)),.c (.v (.bool y6)),.c (.v (.bool y7)),.c (.v (.bool y8)),.c (.v (.bool y9)),.c (.v (.bool y10)),.c (.v (.bool y11))]),(12000,.blk 0 [.c (.sl 1 j23 none),.c (.v (.int .i64 j24))])],1⟩))∧p6_9 False fu K0 y1 y8 y9 y10 y11 j17 j18 j21 j22 j23 j24 j25 j26 j27) (fun L hL_9=>?_) ?_
 conv=>cbv
 refine br_h hO h (by subst hO;rfl) (fun k10 h=>?_) (fun k10 h=>?_)
 conv=>cbv
 refine br_t hO k10 ?_
 conv=>cbv
 refine br_t hO k10 ?_
 conv=>cbv
 refine br_t hO k10 ?_
 conv=>cbv
 refine br_t hO k10 ?_
 conv=>cbv
 refine br_t hO k10 ?_
 conv=>cbv
 refine br_t hO k10 ?_
 conv=>cbv
 exact hL_9 _ _ ⟨(z0a .eql j24 0),⟨(by (conv=>lhs;cbv)<;>(subst hO;rfl)),(by (conv=>lhs;cbv)<;>(subst hO;rfl))⟩,h⟩
 conv=>cbv
 refine br_f hO k10 ?_
 conv=>cbv
 refine br_f hO k10 ?_
 conv=>cbv
 refine br_f hO k10 ?_
 conv=>cbv
 refine br_f hO k10 ?_
 conv=>cbv
 refine br_f hO k10 ?_
 conv=>cbv
 refine br_f hO k10 ?_
 conv=>cbv
 exact hL_9 _ _ ⟨false,⟨(by (conv=>lhs;cbv)<;>(subst hO;rfl)),(by (conv=>lhs;cbv)<;>(subst hO;rfl))⟩,h⟩
 rintro tm m ⟨j27,hs,h⟩
 unfold p6_9 at h
 obtain⟨rfl,rfl⟩:=hs
 conv=>cbv
 refine z0e hO tiA h (by subst hO;rfl) [2,4,5,6] [3000,6000,7000,12000,7777777] [] (fun tm m=>∃ (j28:EL) (j29:Int) (j30:Int) (j31:Int) (j32:Int) (j33:ByteArray) (j34:ByteArray) (j35:Int) (j36:Int) (j37:ByteArray) (j38:EL) (j39:EL) (j40:Int) (j41:Int) (j42:ByteArray) (j43:EL) (j44:EL) (j45:EL),((tm=frame 0 136 [(2,.p 3000 0 0),(4,.p 12000 0 0),(5,.p 6000 0 0),(6,.p 7000 0 0)]∧m=⟨[(3000,.blk 0 [.c (.v (.int .i64 0)),.c (.v (.int .i64 0)),.c (.v (.int .i64 0)),.c (.v (.int .i64 0)),.c (.v (.int .u64 0)),.c (.v (.int .u64 0)),.c (.v (.int .u64 0)),.c (.v (.int .u64 0)),.c (.v (.int .i64 0)),.c (.v (.int .i64 0)),.c (.v (.int .i64 0)),.c (.v (.string ⟨#[]⟩)),.c (.v (.string ⟨#[]⟩)),.c (.v (.int .i64 0)),.c (.v (.int .i64 0)),.c (.v (.string ⟨#[]⟩)),.c (.sl 3 nilE none),.c (.sl 5 nilE none),.c (.v (.int .i64 0)),.c (.v (.int .i64 0)),.c (.v (.string ⟨#[]⟩)),.c (.sl 3 nilE none),.c (.sl 5 nilE none),.c (.sl 6 nilE none),.c (.v (.int .i64 0)),.c (.v (.int .i64 0)),.c (.v (.string ⟨#[]⟩)),.c (.sl 3 nilE none),.c (.sl 5 nilE none),.c (.v (.int .i64 0)),.c (.v (.int .i64 0)),.c (.v (.string ⟨#[]⟩)),.c (.sl 3 nilE none),.c (.sl 5 nilE none)]),(6000,.blk 0 [.c (.v (.int .i64 y1)),.c (.v (.int .i64 0)),.c (.v (.int .i64 j17)),.c (.v (.int .i64 j18)),.c (.v (.int .u64 j21)),.c (.v (.int .u64 j22)),.c (.v (.int .u64 j25)),.c (.v (.int .u64 j26)),.c (.v (.int .i64 j30)),.c (.v (.int .i64 j31)),.c (.v (.int .i64 j32)),.c (.v (.string j33)),.c (.v (.string j34)),.c (.v (.int .i64 j35)),.c (.v (.int .i64 j36)),.c (.v (.string j37)),.c (.sl 3 j38 none),.c (.sl 5 j39 none),.c (.v (.int .i64 j40)),.c (.v (.int .i64 j41)),.c (.v (.string j42)),.c (.sl 3 j43 none),.c (.sl 5 j44 none),.c (.sl 6 j45 none),.c (.v (.int .i64 0)),.c (.v (.int .i64 0)),.c (.v (.string ⟨#[]⟩)),.c (.sl 3 nilE none),.c (.sl 5 nilE none),.c (.v (.int .i64 0)),.c (.v (.int .i64 0)),.c (.v (.string ⟨#[]⟩)),.c (.sl 3 nilE none),.c (.sl 5 nilE none)]),(7000,.blk 0 [.c (.v (.bool y4)),.c (.v (.bool y5)),.c (.v (.bool y6)),.c (.v (.bool y7)),.c (.v (.bool y8)),.c (.v (.bool y9)),.c (.v (.bool y10)),.c (.v (.bool y11))]),(12000,.blk 0 [.c (.sl 1 j28 none),.c (.v (.int .i64 j29))])],1⟩))∧p6_8 False fu K0 y1 y8 y9 y10 y11 j17 j18 j21 j22 j25 j26 j28 j29 j30 j31 j32 j33 j34 j35 j36 j37 j38 j39 j40 j41 j42 j43 j44 j45) (fun k9 h L hL_8=>?_) (fun k9 h L hL_8=>?_) ?_
 conv=>cbv
 refine z0d hO [.ref 2] (d_p18 fu O.len hN h) ?_
 intro e Q a b
 conv=>cbv
 refine⟨by subst a hO;rfl,?_⟩
 intro r bs d
 rw [b] at d
 clear a b h
 obtain⟨y93,y94,y95,y96,y97,y98,y99,y100,y101,y102,y103,y104,y105,y106,y107,y108,y109,y110,⟨rfl,rfl⟩,h⟩:=d
 conv=>cbv
 exact hL_8 _ _ ⟨y109,y110,y93,y94,y95,y96,y97,y98,y99,y100,y101,y102,y103,y104,y105,y106,y107,y108,⟨(by (conv=>lhs;cbv)<;>(subst hO;rfl)),(by (conv=>lhs;cbv)<;>(subst hO;rfl))⟩,h⟩
 conv=>cbv
 exact hL_8 _ _ ⟨j23,j24,0,0,0,⟨#[]⟩,⟨#[]⟩,0,0,⟨#[]⟩,nilE,nilE,0,0,⟨#[]⟩,nilE,nilE,nilE,⟨(by (conv=>lhs;cbv)<;>(subst hO;rfl)),(by (conv=>lhs;cbv)<;>(subst hO;rfl))⟩,h⟩
 rintro tm m ⟨j28,j29,j30,j31,j32,j33,j34,j35,j36,j37,j38,j39,j40,j41,j42,j43,j44,j45,hs,h⟩
 unfold p6_8 at h
 obtain⟨rfl,rfl⟩:=hs
 conv=>cbv
 refine z0e hO tiA h (by subst hO;rfl) [2,4,5,6] [3000,6000,7000,12000,7777777] [] (fun tm m=>∃ (j46:EL) (j47:Int) (j48:Int),((tm=frame 0 136 [(2,.p 3000 0 0),(4,.p 12000 0 0),(5,.p 6000 0 0),(6,.p 7000 0 0)]∧m=⟨[(3000,.blk 0 [.c (.v (.int .i64 0)),.c (.v (.int .i64 0)),.c (.v (.int .i64 0)),.c (.v (.int .i64 0)),.c (.v (.int .u64 0)),.c (.v (.int .u64 0)),.c (.v (.int .u64 0)),.c (.v (.int .u64 0)),.c (.v (.int .i64 0)),.c (.v (.int .i64 0)),.c (.v (.int .i64 0)),.c (.v (.string ⟨#[]⟩)),.c (.v (.string ⟨#[]⟩)),.c (.v (.int .i64 0)),.c (.v (.int .i64 0)),.c (.v (.string ⟨#[]⟩)),.c (.sl 3 nilE none),.c (.sl 5 nilE none),.c (.v (.int .i64 0)),.c (.v (.int .i64 0)),.c (.v (.string ⟨#[]⟩)),.c (.sl 3 nilE none),.c (.sl 5 nilE none),.c (.sl 6 nilE none),.c (.v (.int .i64 0)),.c (.v (.int .i64 0)),.c (.v (.string ⟨#[]⟩)),.c (.sl 3 nilE none),.c (.sl 5 nilE none),.c (.v (.int .i64 0)),.c (.v (.int .i64 0)),.c (.v (.string ⟨#[]⟩)),.c (.sl 3 nilE none),.c (.sl 5 nilE none)]),(6000,.blk 0 [.c (.v (.int .i64 y1)),.c (.v (.int .i64 j48)),.c (.v (.int .i64 j17)),.c (.v (.int .i64 j18)),.c (.v (.int .u64 j21)),.c (.v (.int .u64 j22)),.c (.v (.int .u64 j25)),.c (.v (.int .u64 j26)),.c (.v (.int .i64 j30)),.c (.v (.int .i64 j31)),.c (.v (.int .i64 j32)),.c (.v (.string j33)),.c (.v (.string j34)),.c (.v (.int .i64 j35)),.c (.v (.int .i64 j36)),.c (.v (.string j37)),.c (.sl 3 j38 none),.c (.sl 5 j39 none),.c (.v (.int .i64 j40)),.c (.v (.int .i64 j41)),.c (.v (.string j42)),.c (.sl 3 j43 none),.c (.sl 5 j44 none),.c (.sl 6 j45 none),.c (.v (.int .i64 0)),.c (.v (.int .i64 0)),.c (.v (.string ⟨#[]⟩)),.c (.sl 3 nilE none),.c (.sl 5 nilE none),.c (.v (.int .i64 0)),.c (.v (.int .i64 0)),.c (.v (.string ⟨#[]⟩)),.c (.sl 3 nilE none),.c (.sl 5 nilE none)]),(7000,.blk 0 [.c (.v (.bool y4)),.c (.v (.bool y5)),.c (.v (.bool y6)),.c (.v (.bool y7)),.c (.v (.bool y8)),.c (.v (.bool y9)),.c (.v (.bool y10)),.c (.v (.bool y11))]),(12000,.blk 0 [.c (.sl 1 j46 none),.c (.v (.int .i64 j47))])],1⟩))∧p6_7 False fu K0 y1 y9 y10 y11 j17 j18 j21 j22 j25 j26 j30 j31 j32 j33 j34 j35 j36 j37 j38 j39 j40 j41 j42 j43 j44 j45 j46 j47 j48) (fun k8 h L hL_7=>?_) (fun k8 h L hL_7=>?_) ?_
 conv=>cbv
 refine z0d hO [.ref 2] (d_p16 fu O.len hN h) ?_
 intro e Q a b
 conv=>cbv
 refine⟨by subst a hO;rfl,?_⟩
 intro r bs d
 rw [b] at d
 clear a b h
 obtain⟨y90,y91,y92,⟨rfl,rfl⟩,h⟩:=d
 conv=>cbv
 exact hL_7 _ _ ⟨y91,y92,y90,⟨(by (conv=>lhs;cbv)<;>(subst hO;rfl)),(by (conv=>lhs;cbv)<;>(subst hO;rfl))⟩,h⟩
 conv=>cbv
 exact hL_7 _ _ ⟨j28,j29,0,⟨(by (conv=>lhs;cbv)<;>(subst hO;rfl)),(by (conv=>lhs;cbv)<;>(subst hO;rfl))⟩,h⟩
 rintro tm m ⟨j46,j47,j48,hs,h⟩
 unfold p6_7 at h
 obtain⟨rfl,rfl⟩:=hs
 conv=>cbv
 refine z0g hO tiA [2,4,5,6,82] [3000,6000,7000,12000,7777777] [] (fun tm m=>∃ (j49:Bool),((tm=frame 0 136 [(2,.p 3000 0 0),(4,.p 12000 0 0),(5,.p 6000 0 0),(6,.p 7000 0 0),(82,.c (.v (.bool j49)))]∧m=⟨[(3000,.blk 0 [.c (.v (.int .i64 0)),.c (.v (.int .i64 0)),.c (.v (.int .i64 0)),.c (.v (.int .i64 0)),.c (.v (.int .u64 0)),.c (.v (.int .u64 0)),.c (.v (.int .u64 0)),.c (.v (.int .u64 0)),.c (.v (.int .i64 0)),.c (.v (.int .i64 0)),.c (.v (.int .i64 0)),.c (.v (.string ⟨#[]⟩)),.c (.v (.string ⟨#[]⟩)),.c (.v (.int .i64 0)),.c (.v (.int .i64 0)),.c (.v (.string ⟨#[]⟩)),.c (.sl 3 nilE none),.c (.sl 5 nilE none),.c (.v (.int .i64 0)),.c (.v (.int .i64 0)),.c (.v (.string ⟨#[]⟩)),.c (.sl 3 nilE none),.c (.sl 5 nilE none),.c (.sl 6 nilE none),.c (.v (.int .i64 0)),.c (.v (.int .i64 0)),.c (.v (.string ⟨#[]⟩)),.c (.sl 3 nilE none),.c (.sl 5 nilE none),.c (.v (.int .i64 0)),.c (.v (.int .i64 0)),.c (.v (.string ⟨#[]⟩)),.c (.sl 3 nilE none),.c (.sl 5 nilE none)]),(6000,.blk 0 [.c (.v (.int .i64 y1)),.c (.v (.int .i64 j48)),.c (.v (.int .i64 j17)),.c (.v (.int .i64 j18)),.c (.v (.int .u64 j21)),.c (.v (.int .u64 j22)),.c (.v (.int .u64 j25)),.c (.v (.int .u64 j26)),.c (.v (.int .i64 j30)),.c (.v (.int .i64 j31)),.c (.v (.int .i64 j32)),.c (.v (.string j33)),.c (.v (.string j34)),.c (.v (.int .i64 j35)),.c (.v (.int .i64 j36)),.c (.v (.string j37)),.c (.sl 3 j38 none),.c (.sl 5 j39 none),.c (.v (.int .i64 j40)),.c (.v (.int .i64 j41)),.c (.v (.string j42)),.c (.sl 3 j43 none),.c (.sl 5 j44 none),.c (.sl 6 j45 none),.c (.v (.int .i64 0)),.c (.v (.int .i64 0)),.c (.v (.string ⟨#[]⟩)),.c (.sl 3 nilE none),.c (.sl 5 nilE none),.c (.v (.int .i64 0)),.c (.v (.int .i64 0)),.c (.v (.string ⟨#[]⟩)),.c (.sl 3 nilE none),.c (.sl 5 nilE none)]),(7000,.blk 0 [.c (.v (.bool y4)),.c (.v (.bool y5)),.c (.v (.bool y6)),.c (.v (.bool y7)),.c (.v (.bool y8)),.c (.v (.bool y9)),.c (.v (.bool y10)),.c (.v (.bool y11))]),(12000,.blk 0 [.c (.sl 1 j46 none),.c (.v (.int .i64 j47))])],1⟩))∧p6_6 False fu K0 y1 y10 y11 j17 j18 j21 j22 j25 j26 j30 j31 j32 j33 j34 j35 j36 j37 j38 j39 j40 j41 j42 j43 j44 j45 j46 j47 j48 j49) (fun L hL_6=>?_) ?_
 conv=>cbv
 refine br_h hO h (by subst hO;rfl) (fun k7 h=>?_) (fun k7 h=>?_)
 conv=>cbv
 refine br_t hO k7 ?_
 conv=>cbv
 refine br_t hO k7 ?_
 conv=>cbv
 refine br_t hO k7 ?_
 conv=>cbv
 refine br_t hO k7 ?_
 conv=>cbv
 refine br_t hO k7 ?_
 conv=>cbv
 refine br_t hO k7 ?_
 conv=>cbv
 exact hL_6 _ _ ⟨(z0a .eql j47 0),⟨(by (conv=>lhs;cbv)<;>(subst hO;rfl)),(by (conv=>lhs;cbv)<;>(subst hO;rfl))⟩,h⟩
 conv=>cbv
 refine br_f hO k7 ?_
 conv=>cbv
 refine br_f hO k7 ?_
 conv=>cbv
 refine br_f hO k7 ?_
 conv=>cbv
 refine br_f hO k7 ?_
 conv=>cbv
 refine br_f hO k7 ?_
 conv=>cbv
 refine br_f hO k7 ?_
 conv=>cbv
 exact hL_6 _ _ ⟨false,⟨(by (conv=>lhs;cbv)<;>(subst hO;rfl)),(by (conv=>lhs;cbv)<;>(subst hO;rfl))⟩,h⟩
 rintro tm m ⟨j49,hs,h⟩
 unfold p6_6 at h
 obtain⟨rfl,rfl⟩:=hs
 conv=>cbv
 refine z0e hO tiA h (by subst hO;rfl) [2,4,5,6] [3000,6000,7000,12000,7777777] [] (fun tm m=>∃ (j50:EL) (j51:Int) (j52:Int) (j53:Int) (j54:ByteArray) (j55:EL) (j56:EL),((tm=frame 0 136 [(2,.p 3000 0 0),(4,.p 12000 0 0),(5,.p 6000 0 0),(6,.p 7000 0 0)]∧m=⟨[(3000,.blk 0 [.c (.v (.int .i64 0)),.c (.v (.int .i64 0)),.c (.v (.int .i64 0)),.c (.v (.int .i64 0)),.c (.v (.int .u64 0)),.c (.v (.int .u64 0)),.c (.v (.int .u64 0)),.c (.v (.int .u64 0)),.c (.v (.int .i64 0)),.c (.v (.int .i64 0)),.c (.v (.int .i64 0)),.c (.v (.string ⟨#[]⟩)),.c (.v (.string ⟨#[]⟩)),.c (.v (.int .i64 0)),.c (.v (.int .i64 0)),.c (.v (.string ⟨#[]⟩)),.c (.sl 3 nilE none),.c (.sl 5 nilE none),.c (.v (.int .i64 0)),.c (.v (.int .i64 0)),.c (.v (.string ⟨#[]⟩)),.c (.sl 3 nilE none),.c (.sl 5 nilE none),.c (.sl 6 nilE none),.c (.v (.int .i64 0)),.c (.v (.int .i64 0)),.c (.v (.string ⟨#[]⟩)),.c (.sl 3 nilE none),.c (.sl 5 nilE none),.c (.v (.int .i64 0)),.c (.v (.int .i64 0)),.c (.v (.string ⟨#[]⟩)),.c (.sl 3 nilE none),.c (.sl 5 nilE none)]),(6000,.blk 0 [.c (.v (.int .i64 y1)),.c (.v (.int .i64 j48)),.c (.v (.int .i64 j17)),.c (.v (.int .i64 j18)),.c (.v (.int .u64 j21)),.c (.v (.int .u64 j22)),.c (.v (.int .u64 j25)),.c (.v (.int .u64 j26)),.c (.v (.int .i64 j30)),.c (.v (.int .i64 j31)),.c (.v (.int .i64 j32)),.c (.v (.string j33)),.c (.v (.string j34)),.c (.v (.int .i64 j35)),.c (.v (.int .i64 j36)),.c (.v (.string j37)),.c (.sl 3 j38 none),.c (.sl 5 j39 none),.c (.v (.int .i64 j40)),.c (.v (.int .i64 j41)),.c (.v (.string j42)),.c (.sl 3 j43 none),.c (.sl 5 j44 none),.c (.sl 6 j45 none),.c (.v (.int .i64 j52)),.c (.v (.int .i64 j53)),.c (.v (.string j54)),.c (.sl 3 j55 none),.c (.sl 5 j56 none),.c (.v (.int .i64 0)),.c (.v (.int .i64 0)),.c (.v (.string ⟨#[]⟩)),.c (.sl 3 nilE none),.c (.sl 5 nilE none)]),(7000,.blk 0 [.c (.v (.bool y4)),.c (.v (.bool y5)),.c (.v (.bool y6)),.c (.v (.bool y7)),.c (.v (.bool y8)),.c (.v (.bool y9)),.c (.v (.bool y10)),.c (.v (.bool y11))]),(12000,.blk 0 [.c (.sl 1 j50 none),.c (.v (.int .i64 j51))])],1⟩))∧p6_5 False fu K0 y1 y10 y11 j17 j18 j21 j22 j25 j26 j30 j31 j32 j33 j34 j35 j36 j37 j38 j39 j40 j41 j42 j43 j44 j45 j48 j50 j51 j52 j53 j54 j55 j56) (fun k6 h L hL_5=>?_) (fun k6 h L hL_5=>?_) ?_
 conv=>cbv
 refine z0d hO [.ref 2] (d_p19 fu O.len hN h) ?_
 intro e Q a b
 conv=>cbv
 refine⟨by subst a hO;rfl,?_⟩
 intro r bs d
 rw [b] at d
 clear a b h
 obtain⟨y83,y84,y85,y86,y87,y88,y89,⟨rfl,rfl⟩,h⟩:=d
 conv=>cbv
 exact hL_5 _ _ ⟨y88,y89,y83,y84,y85,y86,y87,⟨(by (conv=>lhs;cbv)<;>(subst hO;rfl)),(by (conv=>lhs;cbv)<;>(subst hO;rfl))⟩,h⟩
 conv=>cbv
 exact hL_5 _ _ ⟨j46,j47,0,0,⟨#[]⟩,nilE,nilE,⟨(by (conv=>lhs;cbv)<;>(subst hO;rfl)),(by (conv=>lhs;cbv)<;>(subst hO;rfl))⟩,h⟩
 rintro tm m ⟨j50,j51,j52,j53,j54,j55,j56,hs,h⟩
 unfold p6_5 at h
 obtain⟨rfl,rfl⟩:=hs
 conv=>cbv
 refine z0g hO tiA [2,4,5,6,97] [3000,6000,7000,12000,7777777] [] (fun tm m=>∃ (j57:Bool),((tm=frame 0 136 [(2,.p 3000 0 0),(4,.p 12000 0 0),(5,.p 6000 0 0),(6,.p 7000 0 0),(97,.c (.v (.bool j57)))]∧m=⟨[(3000,.blk 0 [.c (.v (.int .i64 0)),.c (.v (.int .i64 0)),.c (.v (.int .i64 0)),.c (.v (.int .i64 0)),.c (.v (.int .u64 0)),.c (.v (.int .u64 0)),.c (.v (.int .u64 0)),.c (.v (.int .u64 0)),.c (.v (.int .i64 0)),.c (.v (.int .i64 0)),.c (.v (.int .i64 0)),.c (.v (.string ⟨#[]⟩)),.c (.v (.string ⟨#[]⟩)),.c (.v (.int .i64 0)),.c (.v (.int .i64 0)),.c (.v (.string ⟨#[]⟩)),.c (.sl 3 nilE none),.c (.sl 5 nilE none),.c (.v (.int .i64 0)),.c (.v (.int .i64 0)),.c (.v (.string ⟨#[]⟩)),.c (.sl 3 nilE none),.c (.sl 5 nilE none),.c (.sl 6 nilE none),.c (.v (.int .i64 0)),.c (.v (.int .i64 0)),.c (.v (.string ⟨#[]⟩)),.c (.sl 3 nilE none),.c (.sl 5 nilE none),.c (.v (.int .i64 0)),.c (.v (.int .i64 0)),.c (.v (.string ⟨#[]⟩)),.c (.sl 3 nilE none),.c (.sl 5 nilE none)]),(6000,.blk 0 [.c (.v (.int .i64 y1)),.c (.v (.int .i64 j48)),.c (.v (.int .i64 j17)),.c (.v (.int .i64 j18)),.c (.v (.int .u64 j21)),.c (.v (.int .u64 j22)),.c (.v (.int .u64 j25)),.c (.v (.int .u64 j26)),.c (.v (.int .i64 j30)),.c (.v (.int .i64 j31)),.c (.v (.int .i64 j32)),.c (.v (.string j33)),.c (.v (.string j34)),.c (.v (.int .i64 j35)),.c (.v (.int .i64 j36)),.c (.v (.string j37)),.c (.sl 3 j38 none),.c (.sl 5 j39 none),.c (.v (.int .i64 j40)),.c (.v (.int .i64 j41)),.c (.v (.string j42)),.c (.sl 3 j43 none),.c (.sl 5 j44 none),.c (.sl 6 j45 none),.c (.v (.int .i64 j52)),.c (.v (.int .i64 j53)),.c (.v (.string j54)),.c (.sl 3 j55 none),.c (.sl 5 j56 none),.c (.v (.int .i64 0)),.c (.v (.int .i64 0)),.c (.v (.string ⟨#[]⟩)),.c (.sl 3 nilE none),.c (.sl 5 nilE none)]),(7000,.blk 0 [.c (.v (.bool y4)),.c (.v (.bool y5)),.c (.v (.bool y6)),.c (.v (.bool y7)),.c (.v (.bool y8)),.c (.v (.bool y9)),.c (.v (.bool y10)),.c (.v (.bool y11))]),(12000,.blk 0 [.c (.sl 1 j50 none),.c (.v (.int .i64 j51))])],1⟩))∧p6_4 False fu K0 y1 y11 j17 j18 j21 j22 j25 j26 j30 j31 j32 j33 j34 j35 j36 j37 j38 j39 j40 j41 j42 j43 j44 j45 j48 j50 j51 j52 j53 j54 j55 j56 j57) (fun L hL_4=>?_) ?_
 conv=>cbv
 refine br_h hO h (by subst hO;rfl) (fun k5 h=>?_) (fun k5 h=>?_)
 conv=>cbv
 refine br_t hO k5 ?_
 conv=>cbv
 refine br_t hO k5 ?_
 conv=>cbv
 refine br_t hO k5 ?_
 conv=>cbv
 refine br_t hO k5 ?_
 conv=>cbv
 refine br_t hO k5 ?_
 conv=>cbv
 refine br_t hO k5 ?_
 conv=>cbv
 exact hL_4 _ _ ⟨(z0a .eql j51 0),⟨(by (conv=>lhs;cbv)<;>(subst hO;rfl)),(by (conv=>lhs;cbv)<;>(subst hO;rfl))⟩,h⟩
 conv=>cbv
 refine br_f hO k5 ?_
 conv=>cbv
 refine br_f hO k5 ?_
 conv=>cbv
 refine br_f hO k5 ?_
 conv=>cbv
 refine br_f hO k5 ?_
 conv=>cbv
 refine br_f hO k5 ?_
 conv=>cbv
 refine br_f hO k5 ?_
 conv=>cbv
 exact hL_4 _ _ ⟨false,⟨(by (conv=>lhs;cbv)<;>(subst hO;rfl)),(by (conv=>lhs;cbv)<;>(subst hO;rfl))⟩,h⟩
 rintro tm m ⟨j57,hs,h⟩
 unfold p6_4 at h
 obtain⟨rfl,rfl⟩:=hs
 conv=>cbv
 refine z0e hO tiA h (by subst hO;rfl) [2,4,5,6] [3000,6000,7000,12000,7777777] [] (fun tm m=>∃ (j58:EL) (j59:Int) (j60:Int) (j61:Int) (j62:ByteArray) (j63:EL) (j64:EL),((tm=frame 0 136 [(2,.p 3000 0 0),(4,.p 12000 0 0),(5,.p 6000 0 0),(6,.p 7000 0 0)]∧m=⟨[(3000,.blk 0 [.c (.v (.int .i64 0)),.c (.v (.int .i64 0)),.c (.v (.int .i64 0)),.c (.v (.int .i64 0)),.c (.v (.int .u64 0)),.c (.v (.int .u64 0)),.c (.v (.int .u64 0)),.c (.v (.int .u64 0)),.c (.v (.int .i64 0)),.c (.v (.int .i64 0)),.c (.v (.int .i64 0)),.c (.v (.string ⟨#[]⟩)),.c (.v (.string ⟨#[]⟩)),.c (.v (.int .i64 0)),.c (.v (.int .i64 0)),.c (.v (.string ⟨#[]⟩)),.c (.sl 3 nilE none),.c (.sl 5 nilE none),.c (.v (.int .i64 0)),.c (.v (.int .i64 0)),.c (.v (.string ⟨#[]⟩)),.c (.sl 3 nilE none),.c (.sl 5 nilE none),.c (.sl 6 nilE none),.c (.v (.int .i64 0)),.c (.v (.int .i64 0)),.c (.v (.string ⟨#[]⟩)),.c (.sl 3 nilE none),.c (.sl 5 nilE none),.c (.v (.int .i64 0)),.c (.v (.int .i64 0)),.c (.v (.string ⟨#[]⟩)),.c (.sl 3 nilE none),.c (.sl 5 nilE none)]),(6000,.blk 0 [.c (.v (.int .i64 y1)),.c (.v (.int .i64 j48)),.c (.v (.int .i64 j17)),.c (.v (.int .i64 j18)),.c (.v (.int .u64 j21)),.c (.v (.int .u64 j22)),.c (.v (.int .u64 j25)),.c (.v (.int .u64 j26)),.c (.v (.int .i64 j30)),.c (.v (.int .i64 j31)),.c (.v (.int .i64 j32)),.c (.v (.string j33)),.c (.v (.string j34)),.c (.v (.int .i64 j35)),.c (.v (.int .i64 j36)),.c (.v (.string j37)),.c (.sl 3 j38 none),.c (.sl 5 j39 none),.c (.v (.int .i64 j40)),.c (.v (.int .i64 j41)),.c (.v (.string j42)),.c (.sl 3 j43 none),.c (.sl 5 j44 none),.c (.sl 6 j45 none),.c (.v (.int .i64 j52)),.c (.v (.int .i64 j53)),.c (.v (.string j54)),.c (.sl 3 j55 none),.c (.sl 5 j56 none),.c (.v (.int .i64 j60)),.c (.v (.int .i64 j61)),.c (.v (.string j62)),.c (.sl 3 j63 none),.c (.sl 5 j64 none)]),(7000,.blk 0 [.c (.v (.bool y4)),.c (.v (.bool y5)),.c (.v (.bool y6)),.c (.v (.bool y7)),.c (.v (.bool y8)),.c (.v (.bool y9)),.c (.v (.bool y10)),.c (.v (.bool y11))]),(12000,.blk 0 [.c (.sl 1 j58 none),.c (.v (.int .i64 j59))])],1⟩))∧p6_3 False fu K0 y1 y11 j17 j18 j21 j22 j25 j26 j30 j31 j32 j33 j34 j35 j36 j37 j38 j39 j40 j41 j42 j43 j44 j45 j48 j52 j53 j54 j55 j56 j58 j59 j60 j61 j62 j63 j64) (fun k4 h L hL_3=>?_) (fun k4 h L hL_3=>?_) ?_
 conv=>cbv
 refine z0d hO [.ref 2] (d_p19 fu O.len hN h) ?_
 intro e Q a b
 conv=>cbv
 refine⟨by subst a hO;rfl,?_⟩
 intro r bs d
 rw [b] at d
 clear a b h
 obtain⟨y76,y77,y78,y79,y80,y81,y82,⟨rfl,rfl⟩,h⟩:=d
 conv=>cbv
 exact hL_3 _ _ ⟨y81,y82,y76,y77,y78,y79,y80,⟨(by (conv=>lhs;cbv)<;>(subst hO;rfl)),(by (conv=>lhs;cbv)<;>(subst hO;rfl))⟩,h⟩
 conv=>cbv
 exact hL_3 _ _ ⟨j50,j51,0,0,⟨#[]⟩,nilE,nilE,⟨(by (conv=>lhs;cbv)<;>(subst hO;rfl)),(by (conv=>lhs;cbv)<;>(subst hO;rfl))⟩,h⟩
 rintro tm m ⟨j58,j59,j60,j61,j62,j63,j64,hs,h⟩
 unfold p6_3 at h
 obtain⟨rfl,rfl⟩:=hs
 conv=>cbv
 refine z0e hO tiA h (by subst hO;rfl) [2,4,5] [3000,6000,12000,7777777] [] (fun tm m=>∃ (j65:EL) (j66:Int) (j67:ByteArray),((tm=frame 0 136 [(2,.p 3000 0 0),(4,.p 12000 0 0),(5,.p 6000 0 0)]∧m=⟨[(3000,.blk 0 [.c (.v (.int .i64 0)),.c (.v (.int .i64 0)),.c (.v (.int .i64 0)),.c (.v (.int .i64 0)),.c (.v (.int .u64 0)),.c (.v (.int .u64 0)),.c (.v (.int .u64 0)),.c (.v (.int .u64 0)),.c (.v (.int .i64 0)),.c (.v (.int .i64 0)),.c (.v (.int .i64 0)),.c (.v (.string ⟨#[]⟩)),.c (.v (.string ⟨#[]⟩)),.c (.v (.int .i64 0)),.c (.v (.int .i64 0)),.c (.v (.string ⟨#[]⟩)),.c (.sl 3 nilE none),.c (.sl 5 nilE none),.c (.v (.int .i64 0)),.c (.v (.int .i64 0)),.c (.v (.string ⟨#[]⟩)),.c (.sl 3 nilE none),.c (.sl 5 nilE none),.c (.sl 6 nilE none),.c (.v (.int .i64 0)),.c (.v (.int .i64 0)),.c (.v (.string ⟨#[]⟩)),.c (.sl 3 nilE none),.c (.sl 5 nilE none),.c (.v (.int .i64 0)),.c (.v (.int .i64 0)),.c (.v (.string ⟨#[]⟩)),.c (.sl 3 nilE none),.c (.sl 5 nilE none)]),(6000,.blk 0 [.c (.v (.int .i64 y1)),.c (.v (.int .i64 j48)),.c (.v (.int .i64 j17)),.c (.v (.int .i64 j18)),.c (.v (.int .u64 j21)),.c (.v (.int .u64 j22)),.c (.v (.int .u64 j25)),.c (.v (.int .u64 j26)),.c (.v (.int .i64 j30)),.c (.v (.int .i64 j31)),.c (.v (.int .i64 j32)),.c (.v (.string j67)),.c (.v (.string j34)),.c (.v (.int .i64 j35)),.c (.v (.int .i64 j36)),.c (.v (.string j37)),.c (.sl 3 j38 none),.c (.sl 5 j39 none),.c (.v (.int .i64 j40)),.c (.v (.int .i64 j41)),.c (.v (.string j42)),.c (.sl 3 j43 none),.c (.sl 5 j44 none),.c (.sl 6 j45 none),.c (.v (.int .i64 j52)),.c (.v (.int .i64 j53)),.c (.v (.string j54)),.c (.sl 3 j55 none),.c (.sl 5 j56 none),.c (.v (.int .i64 j60)),.c (.v (.int .i64 j61)),.c (.v (.string j62)),.c (.sl 3 j63 none),.c (.sl 5 j64 none)]),(12000,.blk 0 [.c (.sl 1 j65 none),.c (.v (.int .i64 j66))])],1⟩))∧p6_2 False fu K0 y1 j17 j18 j21 j22 j25 j26 j30 j31 j32 j34 j35 j36 j37 j38 j39 j40 j41 j42 j43 j44 j45 j48 j52 j53 j54 j55 j56 j60 j61 j62 j63 j64 j65 j66 j67) (fun k3 h L hL_2=>?_) (fun k3 h L hL_2=>?_) ?_
 conv=>cbv
 refine z0d hO [.ref 2,.shut] (d_p20 fu O.len hN h) ?_
 intro e Q a b
 conv=>cbv
 refine⟨by subst a hO;rfl,?_⟩
 intro r bs d
 rw [b] at d
 clear a b h
 obtain⟨y72,y73,y74,_,⟨rfl,rfl⟩,h⟩:=d
 conv=>cbv
 refine tob_h hO h (by subst hO;rfl) (fun s75 h=>?_)
 conv=>cbv
 exact hL_2 _ _ ⟨y73,y74,s75,⟨(by (conv=>lhs;cbv)<;>(subst hO;rfl)),(by (conv=>lhs;cbv)<;>(subst hO;rfl))⟩,h⟩
 conv=>cbv
 exact hL_2 _ _ ⟨j58,j59,j33,⟨(by (conv=>lhs;cbv)<;>(subst hO;rfl)),(by (conv=>lhs;cbv)<;>(subst hO;rfl))⟩,h⟩
 rintro tm m ⟨j65,j66,j67,hs,h⟩
 unfold p6_2 at h
 obtain⟨rfl,rfl⟩:=hs
 conv=>cbv
 refine z0e hO tiA h (by subst hO;rfl) [2,4,5] [3000,6000,12000,7777777] [] (fun tm m=>∃ (j68:EL) (j69:Int),((tm=frame 0 136 [(2,.p 3000 0 0),(4,.p 12000 0 0),(5,.p 6000 0 0)]∧m=⟨[(3000,.blk 0 [.c (.v (.int .i64 0)),.c (.v (.int .i64 0)),.c (.v (.int .i64 0)),.c (.v (.int .i64 0)),.c (.v (.int .u64 0)),.c (.v (.int .u64 0)),.c (.v (.int .u64 0)),.c (.v (.int .u64 0)),.c (.v (.int .i64 0)),.c (.v (.int .i64 0)),.c (.v (.int .i64 0)),.c (.v (.string ⟨#[]⟩)),.c (.v (.string ⟨#[]⟩)),.c (.v (.int .i64 0)),.c (.v (.int .i64 0)),.c (.v (.string ⟨#[]⟩)),.c (.sl 3 nilE none),.c (.sl 5 nilE none),.c (.v (.int .i64 0)),.c (.v (.int .i64 0)),.c (.v (.string ⟨#[]⟩)),.c (.sl 3 nilE none),.c (.sl 5 nilE none),.c (.sl 6 nilE none),.c (.v (.int .i64 0)),.c (.v (.int .i64 0)),.c (.v (.string ⟨#[]⟩)),.c (.sl 3 nilE none),.c (.sl 5 nilE none),.c (.v (.int .i64 0)),.c (.v (.int .i64 0)),.c (.v (.string ⟨#[]⟩)),.c (.sl 3 nilE none),.c (.sl 5 nilE none)]),(6000,.blk 0 [.c (.v (.int .i64 y1)),.c (.v (.int .i64 j48)),.c (.v (.int .i64 j17)),.c (.v (.int .i64 j18)),.c (.v (.int .u64 j21)),.c (.v (.int .u64 j22)),.c (.v (.int .u64 j25)),.c (.v (.int .u64 j26)),.c (.v (.int .i64 j30)),.c (.v (.int .i64 j31)),.c (.v (.int .i64 j32)),.c (.v (.string j67)),.c (.v (.string j34)),.c (.v (.int .i64 j35)),.c (.v (.int .i64 j36)),.c (.v (.string j37)),.c (.sl 3 j38 none),.c (.sl 5 j39 none),.c (.v (.int .i64 j40)),.c (.v (.int .i64 j41)),.c (.v (.string j42)),.c (.sl 3 j43 none),.c (.sl 5 j44 none),.c (.sl 6 j45 none),.c (.v (.int .i64 j52)),.c (.v (.int .i64 j53)),.c (.v (.string j54)),.c (.sl 3 j55 none),.c (.sl 5 j56 none),.c (.v (.int .i64 j60)),.c (.v (.int .i64 j61)),.c (.v (.string j62)),.c (.sl 3 j63 none),.c (.sl 5 j64 none)]),(12000,.blk 0 [.c (.sl 1 j68 none),.c (.v (.int .i64 j69))])],1⟩))∧p6_1 False fu K0 y1 j17 j18 j21 j22 j25 j26 j30 j31 j32 j34 j35 j36 j37 j38 j39 j40 j41 j42 j43 j44 j45 j48 j52 j53 j54 j55 j56 j60 j61 j62 j63 j64 j67 j68 j69) (fun k2 h L hL_1=>?_) (fun k2 h L hL_1=>?_) ?_
 conv=>cbv
 refine z0d hO [.ref 2,.shut] (d_p15 fu O.len hN h) ?_
 intro e Q a b
 conv=>cbv
 refine⟨by subst a hO;rfl,?_⟩
 intro r bs d
 rw [b] at d
 clear a b h
 obtain⟨y70,y71,_,⟨rfl,rfl⟩,h⟩:=d
 conv=>cbv
 exact hL_1 _ _ ⟨y70,y71,⟨(by (conv=>lhs;cbv)<;>(subst hO;rfl)),(by (conv=>lhs;cbv)<;>(subst hO;rfl))⟩,h⟩
 conv=>cbv
 exact hL_1 _ _ ⟨j65,j66,⟨(by (conv=>lhs;cbv)<;>(subst hO;rfl)),(by (conv=>lhs;cbv)<;>(subst hO;rfl))⟩,h⟩
 rintro tm m ⟨j68,j69,hs,h⟩
 unfold p6_1 at h
 obtain⟨rfl,rfl⟩:=hs
 conv=>cbv
 refine br_h hO h (by subst hO;rfl) (fun k1 h=>?_) (fun k1 h=>?_)
 conv=>cbv
 refine z0o hO tiA [[3000],[]] [(0,true,false),(1,true,false),(2,true,false),(3,true,false),(4,true,false),(5,true,false),(6,false,false),(7,true,true)] (by kernel_rfl) ?_
 conv=>cbv
 refine agr hO rfl rfl ?_
 refine z0b hO ?_
 conv=>cbv
 rw [b]
 exact⟨0,0,0,0,0,0,0,0,0,0,0,⟨#[]⟩,⟨#[]⟩,0,0,⟨#[]⟩,nilE,nilE,0,0,⟨#[]⟩,nilE,nilE,nilE,0,0,⟨#[]⟩,nilE,nilE,0,0,⟨#[]⟩,nilE,nilE,j69,_,⟨(by subst hO;rfl),(by subst hO;rfl)⟩,h⟩
 conv=>cbv
 refine z0b hO ?_
 conv=>cbv
 rw [b]
 exact⟨y1,j48,j17,j18,j21,j22,j25,j26,j30,j31,j32,j67,j34,j35,j36,j37,j38,j39,j40,j41,j42,j43,j44,j45,j52,j53,j54,j55,j56,j60,j61,j62,j63,j64,0,_,⟨(by subst hO;rfl),(by subst hO;rfl)⟩,h⟩
theorem d_p4 (fu:Nat){K0:Bool→Prop}(L:EL→Nat)(hN:L=List.length)(h:p4 False fu K0 ):Den Try.prog G0 4 [] (fun r bs=>(∃ (y0:Bool),(r=.c (.v (.bool y0))∧bs=[])∧K0 y0)):=by
 obtain⟨O,hO⟩:∃ O,O=std 0 T G0 (Den Try.prog G0):=⟨_,rfl⟩
 have hLO:L=O.len:=by rw [hN,hO];rfl
 subst hLO
 refine den_h hO tiA mixed tabOk (fn:=Try.f4) (sh:=true) (by kernel_rfl) rfl rfl rfl rfl ?_
 intro Q b
 unfold p4 at h
 conv=>cbv
 refine z0d hO [.shut,.shut] (d_p11 fu O.len hN h) ?_
 intro e Q a b
 conv=>cbv
 refine⟨by subst a hO;rfl,?_⟩
 intro r bs d
 rw [b] at d
 clear a b h
 obtain⟨y1,y2,_,_,⟨rfl,rfl⟩,h⟩:=d
 conv=>cbv
 have hz:=z1f h
 have k7:=hz.1
 replace h:=hz.2
 clear hz
 refine z0d hO [.shut] (d_p6 fu O.len hN h) ?_
 intro e Q a b
 conv=>cbv
 refine z1p hO (by subst hO;exact k7) ?_
 conv=>cbv
 refine⟨by subst a hO;rfl,?_⟩
 intro r bs d
 rw [b] at d
 clear a b h
 obtain⟨y3,y4,y5,y6,y7,y8,y9,y10,y11,y12,y13,y14,y15,y16,y17,y18,y19,y20,y21,y22,y23,y24,y25,y26,y27,y28,y29,y30,y31,y32,y33,y34,y35,y36,y37,_,⟨rfl,rfl⟩,h⟩:=d
 conv=>cbv
 refine z0g hO tiA [0] [] [] (fun tm m=>∃ (j38:Bool),((tm=frame 0 47 [(0,.c (.v (.bool j38)))]∧m=⟨[],1⟩))∧p4_1 False fu K0 j38) (fun L hL_1=>?_) ?_
 conv=>cbv
 refine br_h hO h (by subst hO;rfl) (fun k1 h=>?_) (fun k1 h=>?_)
 conv=>cbv
 refine br_t hO k1 ?_
 conv=>cbv
 refine tob_h hO h (by subst hO;rfl) (fun s39 h=>?_)
 conv=>cbv
 refine br_t hO k1 ?_
 conv=>cbv
 refine br_t hO k1 ?_
 conv=>cbv
 refine br_h hO h (by subst hO;rfl) (fun k2 h=>?_) (fun k2 h=>?_)
 conv=>cbv
 refine br_t hO k2 ?_
 conv=>cbv
 refine br_t hO k2 ?_
 conv=>cbv
 refine br_h hO h (by subst hO;rfl) (fun k3 h=>?_) (fun k3 h=>?_)
 conv=>cbv
 refine br_t hO k3 ?_
 conv=>cbv
 refine br_t hO k3 ?_
 conv=>cbv
 refine br_t hO k3 ?_
 conv=>cbv
 refine br_h hO h (by subst hO;rfl) (fun k4 h=>?_) (fun k4 h=>?_)
 conv=>cbv
 refine br_t hO k4 ?_
 conv=>cbv
 refine br_t hO k4 ?_
 conv=>cbv
 refine br_t hO k4 ?_
 conv=>cbv
 refine br_t hO k4 ?_
 conv=>cbv
 refine br_h hO h (by subst hO;rfl) (fun k5 h=>?_) (fun k5 h=>?_)
 conv=>cbv
 refine br_t hO k5 ?_
 conv=>cbv
 refine br_t hO k5 ?_
 conv=>cbv
 refine br_t hO k5 ?_
 conv=>cbv
 refine br_t hO k5 ?_
 conv=>cbv
 refine br_h hO h (by subst hO;rfl) (fun k6 h=>?_) (fun k6 h=>?_)
 conv=>cbv
 refine br_t hO k6 ?_
 conv=>cbv
 refine z0d hO [.shut] (d_p12 fu O.len hN h) ?_
 intro e Q a b
 conv=>cbv
 refine⟨by subst a hO;rfl,?_⟩
 intro r bs d
 rw [b] at d
 clear a b h
 obtain⟨y40,_,⟨rfl,rfl⟩,h⟩:=d
 conv=>cbv
 refine br_t hO k6 ?_
 conv=>cbv
 exact hL_1 _ _ ⟨y40,⟨(by (conv=>lhs;cbv)<;>(subst hO;rfl)),(by (conv=>lhs;cbv)<;>(subst hO;rfl))⟩,h⟩
 conv=>cbv
 refine br_f hO k6 ?_
 conv=>cbv
 refine br_f hO k6 ?_
 conv=>cbv
 exact hL_1 _ _ ⟨false,⟨(by (conv=>lhs;cbv)<;>(subst hO;rfl)),(by (conv=>lhs;cbv)<;>(subst hO;rfl))⟩,h⟩
 conv=>cbv
 refine br_f hO k5 ?_
 conv=>cbv
 refine br_f hO k5 ?_
 conv=>cbv
 refine br_f hO k5 ?_
 conv=>cbv
 refine br_f hO k5 ?_
 conv=>cbv
 refine br_f hO rfl ?_
 conv=>cbv
 refine br_f hO rfl ?_
 conv=>cbv
 refine br_f hO rfl ?_
 conv=>cbv
 exact hL_1 _ _ ⟨false,⟨(by (conv=>lhs;cbv)<;>(subst hO;rfl)),(by (conv=>lhs;cbv)<;>(subst hO;rfl))⟩,h⟩
 conv=>cbv
 refine br_f hO k4 ?_
 conv=>cbv
 refine br_f hO k4 ?_
 conv=>cbv
 refine br_f hO k4 ?_
 conv=>cbv
 refine br_f hO k4 ?_
 conv=>cbv
 refine br_f hO rfl ?_
 conv=>cbv
 refine br_f hO rfl ?_
 conv=>cbv
 refine br_f hO rfl ?_
 conv=>cbv
 refine br_f hO rfl ?_
 conv=>cbv
 refine br_f hO rfl ?_
 conv=>cbv
 refine br_f hO rfl ?_
 conv=>cbv
 refine br_f hO rfl ?_
 conv=>cbv
 refine br_f hO rfl ?_
 conv=>cbv
 exact hL_1 _ _ ⟨false,⟨(by (conv=>lhs;cbv)<;>(subst hO;rfl)),(by (conv=>lhs;cbv)<;>(subst hO;rfl))⟩,h⟩
 conv=>cbv
 refine br_f hO k3 ?_
 conv=>cbv
 refine br_f hO k3 ?_
 conv=>cbv
 refine br_f hO k3 ?_
 conv=>cbv
 refine br_f hO rfl ?_
 conv=>cbv
 refine br_f hO rfl ?_
 conv=>cbv
 refine br_f hO rfl ?_
 conv=>cbv
 refine br_f hO rfl ?_
 conv=>cbv
 refine br_f hO rfl ?_
 conv=>cbv
 refine br_f hO rfl ?_
 conv=>cbv
 refine br_f hO rfl ?_
 conv=>cbv
 refine br_f hO rfl ?_
 conv=>cbv
 refine br_f hO rfl ?_
 conv=>cbv
 refine br_f hO rfl ?_
 conv=>cbv
 refine br_f hO rfl ?_
 conv=>cbv
 refine br_f hO rfl ?_
 conv=>cbv
 refine br_f hO rfl ?_
 conv=>cbv
 exact hL_1 _ _ ⟨false,⟨(by (conv=>lhs;cbv)<;>(subst hO;rfl)),(by (conv=>lhs;cbv)<;>(subst hO;rfl))⟩,h⟩
 conv=>cbv
 refine br_f hO k2 ?_
 conv=>cbv
 refine br_f hO k2 ?_
 conv=>cbv
 refine br_f hO rfl ?_
 conv=>cbv
 refine br_f hO rfl ?_
 conv=>cbv
 refine br_f hO rfl ?_
 conv=>cbv
 refine br_f hO rfl ?_
 conv=>cbv
 refine br_f hO rfl ?_
 conv=>cbv
 refine br_f hO rfl ?_
 conv=>cbv
 refine br_f hO rfl ?_
 conv=>cbv
 refine br_f hO rfl ?_
 conv=>cbv
 refine br_f hO rfl ?_
 conv=>cbv
 refine br_f hO rfl ?_
 conv=>cbv
 refine br_f hO rfl ?_
 conv=>cbv
 refine br_f hO rfl ?_
 conv=>cbv
 refine br_f hO rfl ?_
 conv=>cbv
 refine br_f hO rfl ?_
 conv=>cbv
 refine br_f hO rfl ?_
 conv=>cbv
 refine br_f hO rfl ?_
 conv=>cbv
 refine br_f hO rfl ?_
 conv=>cbv
 exact hL_1 _ _ ⟨false,⟨(by (conv=>lhs;cbv)<;>(subst hO;rfl)),(by (conv=>lhs;cbv)<;>(subst hO;rfl))⟩,h⟩
 conv=>cbv
 refine br_f hO k1 ?_
 conv=>cbv
 refine br_f hO k1 ?_
 conv=>cbv
 refine br_f hO k1 ?_
 conv=>cbv
 refine br_f hO rfl ?_
 conv=>cbv
 refine br_f hO rfl ?_
 conv=>cbv
 refine br_f hO rfl ?_
 conv=>cbv
 refine br_f hO rfl ?_
 conv=>cbv
 refine br_f hO rfl ?_
 conv=>cbv
 refine br_f hO rfl ?_
 conv=>cbv
 refine br_f hO rfl ?_
 conv=>cbv
 refine br_f hO rfl ?_
 conv=>cbv
 refine br_f hO rfl ?_
 conv=>cbv
 refine br_f hO rfl ?_
 conv=>cbv
 refine br_f hO rfl ?_
 conv=>cbv
 refine br_f hO rfl ?_
 conv=>cbv
 refine br_f hO rfl ?_
 conv=>cbv
 refine br_f hO rfl ?_
 conv=>cbv
 refine br_f hO rfl ?_
 conv=>cbv
 refine br_f hO rfl ?_
 conv=>cbv
 refine br_f hO rfl ?_
 conv=>cbv
 refine br_f hO rfl ?_
 conv=>cbv
 refine br_f hO rfl ?_
 conv=>cbv
 refine br_f hO rfl ?_
 conv=>cbv
 exact hL_1 _ _ ⟨false,⟨(by (conv=>lhs;cbv)<;>(subst hO;rfl)),(by (conv=>lhs;cbv)<;>(subst hO;rfl))⟩,h⟩
 rintro tm m ⟨j38,hs,h⟩
 unfold p4_1 at h
 obtain⟨rfl,rfl⟩:=hs
 conv=>cbv
 rw [b]
 exact⟨j38,⟨(by subst hO;rfl),(by subst hO;rfl)⟩,h⟩
theorem d_p5 (fu:Nat){K0:EL→Nat→Nat→Prop}(L:EL→Nat)(hN:L=List.length){x0:EL}(h:p5 False fu K0 x0):Den Try.prog G0 5 [.c (.sl 1 x0 none)] (fun r bs=>(∃ (y0:EL) (y1 y2:Nat) (o0:OV),(r=.arr 1 y0 (some y1) false y2∧bs=[o0])∧K0 y0 y1 y2)):=by
 obtain⟨O,hO⟩:∃ O,O=std 0 T G0 (Den Try.prog G0):=⟨_,rfl⟩
 have hLO:L=O.len:=by rw [hN,hO];rfl
 subst hLO
 refine den_h hO tiA mixed tabOk (fn:=Try.f5) (sh:=false) (by kernel_rfl) rfl rfl rfl rfl ?_
 intro Q b
 unfold p5 at h
 conv=>cbv
 refine and_h h (fun g=>(by subst hO;exact g)) (fun h=>?_)
 refine and_h h (fun g=>(by subst hO;exact g)) (fun h=>?_)
 refine and_h h (fun g=>(by subst hO;exact g)) (fun h=>?_)
 refine alt_l hO ?_
 conv=>cbv
 refine and_h h (fun g=>(by subst hO;exact g)) (fun h=>?_)
 refine z0r hO tiA [0,3,4] [9000] [] (fun (n:Nat) tm m=>∃ (z1:EL) (z2:Nat) (z3:Nat) (z4:Int),((tm=frame 0 27 [(0,.c (.sl 1 x0 none)),(3,.t 9000 0 z3),(4,.c (.v (.int .i64 z4)))]∧m=⟨[(9000,.arr 0 1 z1 (some z2) false)],1⟩))∧p5_1L False fu K0 x0 n z1 z2 z3 z4) (fun n=>n) fu ⟨(List.take (min x0.length ((z0c .add .i64 ((x0.length:Nat):Int) 3:Int).toNat)) x0++List.drop (min x0.length ((z0c .add .i64 ((x0.length:Nat):Int) 3:Int).toNat)) (List.replicate ((z0c .add .i64 ((x0.length:Nat):Int) 3:Int).toNat) [(CV.v (.int .u8 0))])),((z0c .add .i64 ((x0.length:Nat):Int) 3:Int).toNat),((z0c .add .i64 ((x0.length:Nat):Int) 3:Int).toNat),((x0.length:Nat):Int),⟨(by (conv=>lhs;cbv)<;>(subst hO;rfl)),(by (conv=>lhs;cbv)<;>(subst hO;rfl))⟩,h⟩ ?_
 rintro n1 tm m L ⟨z1,z2,z3,z4,hs,h⟩ hLn1
 (cases n1 with
 | zero=>rw [p5_1L] at h;exact h.elim
 | succ n1 =>
 rw [p5_1L] at h
 unfold p5_1 at h
 obtain⟨rfl,rfl⟩:=hs
 conv=>cbv
 refine alt_l hO ?_
 conv=>cbv
 refine br_h hO h (by subst hO;rfl) (fun k1 h=>?_) (fun k1 h=>?_)
 conv=>cbv
 refine z0b hO ?_
 conv=>cbv
 refine alt_l hO ?_
 conv=>cbv
 refine and_h h (fun g=>(by subst hO;exact g)) (fun h=>?_)
 refine and_h h (fun g=>(by subst hO;exact g)) (fun h=>?_)
 refine and_h h (fun g=>(by subst hO;exact g)) (fun h=>?_)
 refine and_h h (fun g=>(by subst hO;exact g)) (fun h=>?_)
 refine and_h h (fun g=>(by subst hO;exact g)) (fun h=>?_)
 exact hLn1 n1 _ _ (Nat.lt_succ_self n1) ⟨List.set z1 ((z4:Int).toNat) (putAt (List.getD z1 ((z4:Int).toNat) []) 0 [(CV.v (.int .u8 229))]),z2,z3,z0c .add .i64 z4 1,⟨(by (conv=>lhs;cbv)<;>(subst hO;rfl)),(by (conv=>lhs;cbv)<;>(subst hO;rfl))⟩,h⟩
 conv=>cbv
 refine alt_l hO ?_
 conv=>cbv
 refine and_h h (fun g=>(by subst hO;exact g)) (fun h=>?_)
 refine and_h h (fun g=>(by subst hO;exact g)) (fun h=>?_)
 refine and_h h (fun g=>(by subst hO;exact g)) (fun h=>?_)
 refine and_h h (fun g=>(by subst hO;exact g)) (fun h=>?_)
 rw [b]
 exact⟨z1,z2,((((x0.length:Nat):Int):Int).toNat),_,⟨(by subst hO;rfl),(by subst hO;rfl)⟩,h⟩)
theorem d_p21 (fu:Nat){K0:Int→Int→Int→Prop}(L:EL→Nat)(hN:L=List.length){x0:EL}(h:p21 False fu K0 x0):Den Try.prog G0 21 [.c (.sl 1 x0 none)] (fun r bs=>(∃ (y0 y1 y2:Int) (o0:OV),(r=.tup [.c (.v (.int .u64 y0)),.c (.v (.int .i64 y1)),.c (.v (.int .i64 y2))]∧bs=[o0])∧K0 y0 y1 y2)):=by
 obtain⟨O,hO⟩:∃ O,O=std 0 T G0 (Den Try.prog G0):=⟨_,rfl⟩
 have hLO:L=O.len:=by rw [hN,hO];rfl
 subst hLO
 refine den_h hO tiA mixed tabOk (fn:=Try.f21) (sh:=true) (by kernel_rfl) rfl rfl rfl rfl ?_
 intro Q b
 unfold p21 at h
 conv=>cbv
 refine z0r hO tiA [0,5,6,7] [] [] (fun (n:Nat) tm m=>∃ (z1:Int) (z2:Int) (z3:Int),((tm=frame 0 54 [(0,.c (.sl 1 x0 none)),(5,.c (.v (.int .u64 z1))),(6,.c (.v (.int .u64 z2))),(7,.c (.v (.int .i64 z3)))]∧m=⟨[],1⟩))∧p21_3L False fu K0 x0 n z1 z2 z3) (fun n=>n) fu ⟨0,1,0,⟨(by (conv=>lhs;cbv)<;>(subst hO;rfl)),(by (conv=>lhs;cbv)<;>(subst hO;rfl))⟩,h⟩ ?_
 rintro n1 tm m L ⟨z1,z2,z3,hs,h⟩ hLn1
 (cases n1 with
 | zero=>rw [p21_3L] at h;exact h.elim
 | succ n1 =>
 rw [p21_3L] at h
 unfold p21_3 at h
 obtain⟨rfl,rfl⟩:=hs
 conv=>cbv
 refine br_h hO h (by subst hO;rfl) (fun k1 h=>?_) (fun k1 h=>?_)
 conv=>cbv
 refine z0b hO ?_
 conv=>cbv
 refine br_h hO h (by subst hO;rfl) (fun k2 h=>?_) (fun k2 h=>?_)
 conv=>cbv
 rw [b]
 exact⟨0,0,2,_,⟨(by subst hO;rfl),(by subst hO;rfl)⟩,h⟩
 conv=>cbv
 refine z0b hO ?_
 conv=>cbv
 refine z0g hO tiA [0,5,6,7,24] [] [] (fun tm m=>∃ (j4:Bool),((tm=frame 0 54 [(0,.c (.sl 1 x0 none)),(5,.c (.v (.int .u64 z1))),(6,.c (.v (.int .u64 z2))),(7,.c (.v (.int .i64 z3))),(24,.c (.v (.bool j4)))]∧m=⟨[],1⟩))∧p21_2 False fu K0 (p21_3L False fu K0 x0 n1) x0 z1 z2 z3 j4) (fun L hL_2=>?_) ?_
 conv=>cbv
 refine br_h hO h (by subst hO;rfl) (fun k7 h=>?_) (fun k7 h=>?_)
 conv=>cbv
 refine br_t hO k7 ?_
 conv=>cbv
 refine br_t hO k7 ?_
 conv=>cbv
 refine and_h h (fun g=>(by subst hO;exact g)) (fun h=>?_)
 refine and_h h (fun g=>(by subst hO;exact g)) (fun h=>?_)
 obtain⟨c10,hr,h⟩:=z2s h
 refine z1a hO _ (by subst hO;exact hr) ?_
 clear hr
 conv=>cbv
 refine br_t hO k7 ?_
 conv=>cbv
 refine br_t hO k7 ?_
 conv=>cbv
 refine br_t hO k7 ?_
 conv=>cbv
 exact hL_2 _ _ ⟨(z0a .gtr c10 1),⟨(by (conv=>lhs;cbv)<;>(subst hO;rfl)),(by (conv=>lhs;cbv)<;>(subst hO;rfl))⟩,h⟩
 conv=>cbv
 refine br_f hO k7 ?_
 conv=>cbv
 refine br_f hO k7 ?_
 conv=>cbv
 refine br_f hO k7 ?_
 conv=>cbv
 refine br_f hO k7 ?_
 conv=>cbv
 refine br_f hO k7 ?_
 conv=>cbv
 exact hL_2 _ _ ⟨false,⟨(by (conv=>lhs;cbv)<;>(subst hO;rfl)),(by (conv=>lhs;cbv)<;>(subst hO;rfl))⟩,h⟩
 rintro tm m ⟨j4,hs,h⟩
 unfold p21_2 at h
 obtain⟨rfl,rfl⟩:=hs
 conv=>cbv
 refine br_h hO h (by subst hO;rfl) (fun k3 h=>?_) (fun k3 h=>?_)
 conv=>cbv
 rw [b]
 exact⟨0,0,4,_,⟨(by subst hO;rfl),(by subst hO;rfl)⟩,h⟩
 conv=>cbv
 refine z0b hO ?_
 conv=>cbv
 refine and_h h (fun g=>(by subst hO;exact g)) (fun h=>?_)
 refine and_h h (fun g=>(by subst hO;exact g)) (fun h=>?_)
 obtain⟨c5,hr,h⟩:=z2s h
 refine z1a hO _ (by subst hO;exact hr) ?_
 clear hr
 conv=>cbv
 refine and_h h (fun g=>(by subst hO;exact g)) (fun h=>?_)
 refine and_h h (fun g=>(by subst hO;exact g)) (fun h=>?_)
 refine and_h h (fun g=>(by subst hO;exact g)) (fun h=>?_)
 obtain⟨c6,hr,h⟩:=z2s h
 refine z1a hO _ (by subst hO;exact hr) ?_
 clear hr
 conv=>cbv
 refine br_h hO h (by subst hO;rfl) (fun k4 h=>?_) (fun k4 h=>?_)
 conv=>cbv
 refine z0g hO tiA [5,7,50] [] [] (fun tm m=>∃ (j7:Int) (j8:Bool),((tm=frame 0 54 [(5,.c (.v (.int .u64 j7))),(7,.c (.v (.int .i64 z3))),(50,.c (.v (.bool j8)))]∧m=⟨[],1⟩))∧p21_1 False fu K0 z3 j7 j8) (fun L hL_1=>?_) ?_
 conv=>cbv
 refine and_h h (fun g=>(by subst hO;exact g)) (fun h=>?_)
 refine and_h h (fun g=>(by subst hO;exact g)) (fun h=>?_)
 obtain⟨c9,hr,h⟩:=z2s h
 refine z1a hO _ (by subst hO;exact hr) ?_
 clear hr
 conv=>cbv
 refine br_h hO h (by subst hO;rfl) (fun k6 h=>?_) (fun k6 h=>?_)
 conv=>cbv
 refine br_t hO k6 ?_
 conv=>cbv
 refine br_t hO k6 ?_
 conv=>cbv
 exact hL_1 _ _ ⟨z0c .add .u64 z1 (z0c .mul .u64 (IntKind.u64.wrap (z0c .rem .u8 c5 128)) z2),(z0a .gtr z3 0),⟨(by (conv=>lhs;cbv)<;>(subst hO;rfl)),(by (conv=>lhs;cbv)<;>(subst hO;rfl))⟩,h⟩
 conv=>cbv
 refine br_f hO k6 ?_
 conv=>cbv
 refine br_f hO k6 ?_
 conv=>cbv
 exact hL_1 _ _ ⟨z0c .add .u64 z1 (z0c .mul .u64 (IntKind.u64.wrap (z0c .rem .u8 c5 128)) z2),false,⟨(by (conv=>lhs;cbv)<;>(subst hO;rfl)),(by (conv=>lhs;cbv)<;>(subst hO;rfl))⟩,h⟩
 rintro tm m ⟨j7,j8,hs,h⟩
 unfold p21_1 at h
 obtain⟨rfl,rfl⟩:=hs
 conv=>cbv
 refine br_h hO h (by subst hO;rfl) (fun k5 h=>?_) (fun k5 h=>?_)
 conv=>cbv
 rw [b]
 exact⟨0,0,5,_,⟨(by subst hO;rfl),(by subst hO;rfl)⟩,h⟩
 conv=>cbv
 refine z0b hO ?_
 conv=>cbv
 rw [b]
 exact⟨j7,z0c .add .i64 z3 1,0,_,⟨(by subst hO;rfl),(by subst hO;rfl)⟩,h⟩
 conv=>cbv
 refine z0b hO ?_
 conv=>cbv
 exact hLn1 n1 _ _ (Nat.lt_succ_self n1) ⟨z0c .add .u64 z1 (z0c .mul .u64 (IntKind.u64.wrap (z0c .rem .u8 c5 128)) z2),z0c .mul .u64 z2 128,z0c .add .i64 z3 1,⟨(by (conv=>lhs;cbv)<;>(subst hO;rfl)),(by (conv=>lhs;cbv)<;>(subst hO;rfl))⟩,h⟩
 conv=>cbv
 rw [b]
 exact⟨0,0,4,_,⟨(by subst hO;rfl),(by subst hO;rfl)⟩,h⟩)
theorem d_p22 (fu:Nat){K0:ByteArray→Bool→Prop}(L:EL→Nat)(hN:L=List.length){x0:Int}(h:p22 False fu K0 x0):Den Try.prog G0 22 [.c (.v (.int .i64 x0))] (fun r bs=>(∃ (y0:ByteArray) (y1:Bool) (o0:OV),(r=.tup [.c (.v (.string y0)),.c (.v (.bool y1))]∧bs=[o0])∧K0 y0 y1)):=by
 obtain⟨O,hO⟩:∃ O,O=std 0 T G0 (Den Try.prog G0):=⟨_,rfl⟩
 have hLO:L=O.len:=by rw [hN,hO];rfl
 subst hLO
 refine den_h hO tiA mixed tabOk (fn:=Try.f22) (sh:=true) (by kernel_rfl) rfl rfl rfl rfl ?_
 intro Q b
 unfold p22 at h
 conv=>cbv
 refine br_h hO h (by subst hO;rfl) (fun k1 h=>?_) (fun k1 h=>?_)
 conv=>cbv
 rw [b]
 exact⟨⟨#[102]⟩,true,_,⟨(by subst hO;rfl),(by subst hO;rfl)⟩,h⟩
 conv=>cbv
 refine z0e hO tiA h (by subst hO;rfl) [4,7] [] [] (fun tm m=>∃ (j1:Bool),((tm=frame 0 33 [(4,.c (.v (.int .i64 x0))),(7,.c (.v (.bool j1)))]∧m=⟨[],1⟩))∧p22_5 False fu K0 x0 j1) (fun k15 h L hL_5=>?_) (fun k15 h L hL_5=>?_) ?_
 conv=>cbv
 exact hL_5 _ _ ⟨(z0a .eql x0 2),⟨(by (conv=>lhs;cbv)<;>(subst hO;rfl)),(by (conv=>lhs;cbv)<;>(subst hO;rfl))⟩,h⟩
 conv=>cbv
 refine z0e hO tiA h (by subst hO;rfl) [4,7] [] [] (fun tm m=>∃ (j6:Bool),((tm=frame 0 33 [(4,.c (.v (.int .i64 x0))),(7,.c (.v (.bool j6)))]∧m=⟨[],1⟩))∧p22_6 False fu K0 x0 j6) (fun k16 h L hL_6=>?_) (fun k16 h L hL_6=>?_) ?_
 conv=>cbv
 exact hL_6 _ _ ⟨(z0a .eql x0 11),⟨(by (conv=>lhs;cbv)<;>(subst hO;rfl)),(by (conv=>lhs;cbv)<;>(subst hO;rfl))⟩,h⟩
 conv=>cbv
 refine z0e hO tiA h (by subst hO;rfl) [4,7] [] [] (fun tm m=>∃ (j7:Bool),((tm=frame 0 33 [(4,.c (.v (.int .i64 x0))),(7,.c (.v (.bool j7)))]∧m=⟨[],1⟩))∧p22_7 False fu K0 x0 j7) (fun k17 h L hL_7=>?_) (fun k17 h L hL_7=>?_) ?_
 conv=>cbv
 exact hL_7 _ _ ⟨(z0a .eql x0 12),⟨(by (conv=>lhs;cbv)<;>(subst hO;rfl)),(by (conv=>lhs;cbv)<;>(subst hO;rfl))⟩,h⟩
 conv=>cbv
 refine z0e hO tiA h (by subst hO;rfl) [4,7] [] [] (fun tm m=>∃ (j8:Bool),((tm=frame 0 33 [(4,.c (.v (.int .i64 x0))),(7,.c (.v (.bool j8)))]∧m=⟨[],1⟩))∧p22_8 False fu K0 x0 j8) (fun k18 h L hL_8=>?_) (fun k18 h L hL_8=>?_) ?_
 conv=>cbv
 exact hL_8 _ _ ⟨(z0a .eql x0 13),⟨(by (conv=>lhs;cbv)<;>(subst hO;rfl)),(by (conv=>lhs;cbv)<;>(subst hO;rfl))⟩,h⟩
 conv=>cbv
 exact hL_8 _ _ ⟨(z0a .eql x0 14),⟨(by (conv=>lhs;cbv)<;>(subst hO;rfl)),(by (conv=>lhs;cbv)<;>(subst hO;rfl))⟩,h⟩
 rintro tm m ⟨j8,hs,h⟩
 unfold p22_8 at h
 obtain⟨rfl,rfl⟩:=hs
 conv=>cbv
 exact hL_7 _ _ ⟨j8,⟨(by (conv=>lhs;cbv)<;>(subst hO;rfl)),(by (conv=>lhs;cbv)<;>(subst hO;rfl))⟩,h⟩
 rintro tm m ⟨j7,hs,h⟩
 unfold p22_7 at h
 obtain⟨rfl,rfl⟩:=hs
 conv=>cbv
 exact hL_6 _ _ ⟨j7,⟨(by (conv=>lhs;cbv)<;>(subst hO;rfl)),(by (conv=>lhs;cbv)<;>(subst hO;rfl))⟩,h⟩
 rintro tm m ⟨j6,hs,h⟩
 unfold p22_6 at h
 obtain⟨rfl,rfl⟩:=hs
 conv=>cbv
 exact hL_5 _ _ ⟨j6,⟨(by (conv=>lhs;cbv)<;>(subst hO;rfl)),(by (conv=>lhs;cbv)<;>(subst hO;rfl))⟩,h⟩
 rintro tm m ⟨j1,hs,h⟩
 unfold p22_5 at h
 obtain⟨rfl,rfl⟩:=hs
 conv=>cbv
 refine br_h hO h (by subst hO;rfl) (fun k2 h=>?_) (fun k2 h=>?_)
 conv=>cbv
 rw [b]
 exact⟨⟨#[104]⟩,true,_,⟨(by subst hO;rfl),(by subst hO;rfl)⟩,h⟩
 conv=>cbv
 refine z0e hO tiA h (by subst hO;rfl) [4,13] [] [] (fun tm m=>∃ (j2:Bool),((tm=frame 0 33 [(4,.c (.v (.int .i64 x0))),(13,.c (.v (.bool j2)))]∧m=⟨[],1⟩))∧p22_3 False fu K0 x0 j2) (fun k13 h L hL_3=>?_) (fun k13 h L hL_3=>?_) ?_
 conv=>cbv
 exact hL_3 _ _ ⟨(z0a .eql x0 3),⟨(by (conv=>lhs;cbv)<;>(subst hO;rfl)),(by (conv=>lhs;cbv)<;>(subst hO;rfl))⟩,h⟩
 conv=>cbv
 refine z0e hO tiA h (by subst hO;rfl) [4,13] [] [] (fun tm m=>∃ (j5:Bool),((tm=frame 0 33 [(4,.c (.v (.int .i64 x0))),(13,.c (.v (.bool j5)))]∧m=⟨[],1⟩))∧p22_4 False fu K0 x0 j5) (fun k14 h L hL_4=>?_) (fun k14 h L hL_4=>?_) ?_
 conv=>cbv
 exact hL_4 _ _ ⟨(z0a .eql x0 4),⟨(by (conv=>lhs;cbv)<;>(subst hO;rfl)),(by (conv=>lhs;cbv)<;>(subst hO;rfl))⟩,h⟩
 conv=>cbv
 exact hL_4 _ _ ⟨(z0a .eql x0 5),⟨(by (conv=>lhs;cbv)<;>(subst hO;rfl)),(by (conv=>lhs;cbv)<;>(subst hO;rfl))⟩,h⟩
 rintro tm m ⟨j5,hs,h⟩
 unfold p22_4 at h
 obtain⟨rfl,rfl⟩:=hs
 conv=>cbv
 exact hL_3 _ _ ⟨j5,⟨(by (conv=>lhs;cbv)<;>(subst hO;rfl)),(by (conv=>lhs;cbv)<;>(subst hO;rfl))⟩,h⟩
 rintro tm m ⟨j2,hs,h⟩
 unfold p22_3 at h
 obtain⟨rfl,rfl⟩:=hs
 conv=>cbv
 refine br_h hO h (by subst hO;rfl) (fun k3 h=>?_) (fun k3 h=>?_)
 conv=>cbv
 rw [b]
 exact⟨⟨#[100]⟩,true,_,⟨(by subst hO;rfl),(by subst hO;rfl)⟩,h⟩
 conv=>cbv
 refine z0e hO tiA h (by subst hO;rfl) [4,17] [] [] (fun tm m=>∃ (j3:Bool),((tm=frame 0 33 [(4,.c (.v (.int .i64 x0))),(17,.c (.v (.bool j3)))]∧m=⟨[],1⟩))∧p22_2 False fu K0 x0 j3) (fun k12 h L hL_2=>?_) (fun k12 h L hL_2=>?_) ?_
 conv=>cbv
 exact hL_2 _ _ ⟨(z0a .eql x0 6),⟨(by (conv=>lhs;cbv)<;>(subst hO;rfl)),(by (conv=>lhs;cbv)<;>(subst hO;rfl))⟩,h⟩
 conv=>cbv
 exact hL_2 _ _ ⟨(z0a .eql x0 17),⟨(by (conv=>lhs;cbv)<;>(subst hO;rfl)),(by (conv=>lhs;cbv)<;>(subst hO;rfl))⟩,h⟩
 rintro tm m ⟨j3,hs,h⟩
 unfold p22_2 at h
 obtain⟨rfl,rfl⟩:=hs
 conv=>cbv
 refine br_h hO h (by subst hO;rfl) (fun k4 h=>?_) (fun k4 h=>?_)
 conv=>cbv
 rw [b]
 exact⟨⟨#[112,116]⟩,true,_,⟨(by subst hO;rfl),(by subst hO;rfl)⟩,h⟩
 conv=>cbv
 refine z0e hO tiA h (by subst hO;rfl) [4,20] [] [] (fun tm m=>∃ (j4:Bool),((tm=frame 0 33 [(4,.c (.v (.int .i64 x0))),(20,.c (.v (.bool j4)))]∧m=⟨[],1⟩))∧p22_1 False fu K0 x0 j4) (fun k11 h L hL_1=>?_) (fun k11 h L hL_1=>?_) ?_
 conv=>cbv
 exact hL_1 _ _ ⟨(z0a .eql x0 7),⟨(by (conv=>lhs;cbv)<;>(subst hO;rfl)),(by (conv=>lhs;cbv)<;>(subst hO;rfl))⟩,h⟩
 conv=>cbv
 exact hL_1 _ _ ⟨(z0a .eql x0 16),⟨(by (conv=>lhs;cbv)<;>(subst hO;rfl)),(by (conv=>lhs;cbv)<;>(subst hO;rfl))⟩,h⟩
 rintro tm m ⟨j4,hs,h⟩
 unfold p22_1 at h
 obtain⟨rfl,rfl⟩:=hs
 conv=>cbv
 refine br_h hO h (by subst hO;rfl) (fun k5 h=>?_) (fun k5 h=>?_)
 conv=>cbv
 rw [b]
 exact⟨⟨#[112,116,121]⟩,true,_,⟨(by subst hO;rfl),(by subst hO;rfl)⟩,h⟩
 conv=>cbv
 refine br_h hO h (by subst hO;rfl) (fun k6 h=>?_) (fun k6 h=>?_)
 conv=>cbv
 rw [b]
 exact⟨⟨#[104,111]⟩,true,_,⟨(by subst hO;rfl),(by subst hO;rfl)⟩,h⟩
 conv=>cbv
 refine br_h hO h (by subst hO;rfl) (fun k7 h=>?_) (fun k7 h=>?_)
 conv=>cbv
 rw [b]
 exact⟨⟨#[104,116]⟩,true,_,⟨(by subst hO;rfl),(by subst hO;rfl)⟩,h⟩
 conv=>cbv
 refine br_h hO h (by subst hO;rfl) (fun k8 h=>?_) (fun k8 h=>?_)
 conv=>cbv
 rw [b]
 exact⟨⟨#[104,121]⟩,true,_,⟨(by subst hO;rfl),(by subst hO;rfl)⟩,h⟩
 conv=>cbv
 refine br_h hO h (by subst hO;rfl) (fun k9 h=>?_) (fun k9 h=>?_)
 conv=>cbv
 rw [b]
 exact⟨⟨#[104,110]⟩,true,_,⟨(by subst hO;rfl),(by subst hO;rfl)⟩,h⟩
 conv=>cbv
 refine br_h hO h (by subst hO;rfl) (fun k10 h=>?_) (fun k10 h=>?_)
 conv=>cbv
 rw [b]
 exact⟨⟨#[]⟩,true,_,⟨(by subst hO;rfl),(by subst hO;rfl)⟩,h⟩
 conv=>cbv
 refine z0b hO ?_
 conv=>cbv
 refine z0b hO ?_
 conv=>cbv
 refine z0b hO ?_
 conv=>cbv
 refine z0b hO ?_
 conv=>cbv
 refine z0b hO ?_
 conv=>cbv
 refine z0b hO ?_
 conv=>cbv
 refine z0b hO ?_
 conv=>cbv
 refine z0b hO ?_
 conv=>cbv
 refine z0b hO ?_
 conv=>cbv
 refine z0b hO ?_
 conv=>cbv
 rw [b]
 exact⟨⟨#[]⟩,false,_,⟨(by subst hO;rfl),(by subst hO;rfl)⟩,h⟩
theorem d_p46 (fu:Nat){K0:EL→Int→Int→Prop}(L:EL→Nat)(hN:L=List.length){x0:EL}{x1 x2 x3:Int}(h:p46 False fu K0 x0 x1 x2 x3):Den Try.prog G0 46 [.ptr [.c (.sl 1 x0 none),.c (.v (.int .i64 x1)),.c (.v (.int .i64 x2))],.c (.v (.int .i64 x3))] (fun r bs=>(∃ (y0:EL) (y1 y2:Int) (o1:OV),(r=.tup []∧bs=[.ptr [.c (.sl 1 y0 none),.c (.v (.int .i64 y1)),.c (.v (.int .i64 y2))],o1])∧K0 y0 y1 y2)):=by
 obtain⟨O,hO⟩:∃ O,O=std 1 T G0 (Den Try.prog G0):=⟨_,rfl⟩
 have hLO:L=O.len:=by rw [hN,hO];rfl
 subst hLO
 refine den_h hO tiA mixed tabOk (fn:=Try.f46) (sh:=true) (by kernel_rfl) rfl rfl rfl rfl ?_
 intro Q b
 unfold p46 at h
 conv=>cbv
 refine z0e hO tiA h (by subst hO;rfl) [] [0] [] (fun tm m=>∃ (j1:Int),((tm=frame 0 13 []∧m=⟨[(0,.blk 0 [.c (.sl 1 x0 none),.c (.v (.int .i64 x1)),.c (.v (.int .i64 j1))])],2⟩))∧p46_1 False fu K0 x0 x1 j1) (fun k1 h L hL_1=>?_) (fun k1 h L hL_1=>?_) ?_
 conv=>cbv
 exact hL_1 _ _ ⟨x3,⟨(by (conv=>lhs;cbv)<;>(subst hO;rfl)),(by (conv=>lhs;cbv)<;>(subst hO;rfl))⟩,h⟩
 conv=>cbv
 exact hL_1 _ _ ⟨x2,⟨(by (conv=>lhs;cbv)<;>(subst hO;rfl)),(by (conv=>lhs;cbv)<;>(subst hO;rfl))⟩,h⟩
 rintro tm m ⟨j1,hs,h⟩
 unfold p46_1 at h
 obtain⟨rfl,rfl⟩:=hs
 conv=>cbv
 rw [b]
 exact⟨x0,x1,j1,_,⟨(by subst hO;rfl),(by subst hO;rfl)⟩,h⟩
theorem d_p45 (fu:Nat){K0:Int→EL→Int→Int→Prop}(L:EL→Nat)(hN:L=List.length){x0:EL}{x1 x2:Int}(h:p45 False fu K0 x0 x1 x2):Den Try.prog G0 45 [.ptr [.c (.sl 1 x0 none),.c (.v (.int .i64 x1)),.c (.v (.int .i64 x2))]] (fun r bs=>(∃ (y0:Int) (y1:EL) (y2 y3:Int),(r=.c (.v (.int .u64 y0))∧bs=[.ptr [.c (.sl 1 y1 none),.c (.v (.int .i64 y2)),.c (.v (.int .i64 y3))]])∧K0 y0 y1 y2 y3)):=by
 obtain⟨O,hO⟩:∃ O,O=std 1 T G0 (Den Try.prog G0):=⟨_,rfl⟩
 have hLO:L=O.len:=by rw [hN,hO];rfl
 subst hLO
 refine den_h hO tiA mixed tabOk (fn:=Try.f45) (sh:=true) (by kernel_rfl) rfl rfl rfl rfl ?_
 intro Q b
 unfold p45 at h
 conv=>cbv
 refine br_h hO h (by subst hO;rfl) (fun k1 h=>?_) (fun k1 h=>?_)
 conv=>cbv
 rw [b]
 exact⟨0,x0,x1,x2,⟨(by subst hO;rfl),(by subst hO;rfl)⟩,h⟩
 conv=>cbv
 refine z0b hO ?_
 conv=>cbv
 refine z0o hO tiA [[],[]] [(0,true,false),(1,true,false),(2,true,false),(3,true,false),(4,true,false),(5,true,false),(6,true,false),(7,true,false),(8,true,false),(9,false,true),(10,true,true),(11,true,true),(12,true,true),(13,true,true),(14,true,true),(15,true,true),(16,true,true)] (by kernel_rfl) ?_
 conv=>cbv
 refine and_h h (fun g=>(by subst hO;exact g)) (fun h=>?_)
 refine and_h h (fun g=>(by subst hO;exact g)) (fun h=>?_)
 refine and_h h (fun g=>(by subst hO;exact g)) (fun h=>?_)
 refine z0d hO [.shut] (d_p21 fu O.len hN h) ?_
 intro e Q a b
 conv=>cbv
 refine⟨by subst a hO;rfl,?_⟩
 intro r bs d
 rw [b] at d
 clear a b h
 obtain⟨y1,y2,y3,_,⟨rfl,rfl⟩,h⟩:=d
 conv=>cbv
 refine z0b hO ?_
 conv=>cbv
 refine br_h hO h (by subst hO;rfl) (fun k2 h=>?_) (fun k2 h=>?_)
 conv=>cbv
 refine z0d hO [.ref 3,.shut] (d_p46 fu O.len hN h) ?_
 intro e Q a b
 conv=>cbv
 refine⟨by subst a hO;rfl,?_⟩
 intro r bs d
 rw [b] at d
 clear a b h
 obtain⟨y4,y5,y6,_,⟨rfl,rfl⟩,h⟩:=d
 conv=>cbv
 rw [b]
 exact⟨0,y4,y5,y6,⟨(by subst hO;rfl),(by subst hO;rfl)⟩,h⟩
 conv=>cbv
 refine z0b hO ?_
 conv=>cbv
 rw [b]
 exact⟨y1,x0,z0c .add .i64 x1 y2,x2,⟨(by subst hO;rfl),(by subst hO;rfl)⟩,h⟩
theorem d_p23 (fu:Nat){K0:Int→EL→Int→Int→Prop}(L:EL→Nat)(hN:L=List.length){x0:EL}{x1 x2:Int}(h:p23 False fu K0 x0 x1 x2):Den Try.prog G0 23 [.ptr [.c (.sl 1 x0 none),.c (.v (.int .i64 x1)),.c (.v (.int .i64 x2))]] (fun r bs=>(∃ (y0:Int) (y1:EL) (y2 y3:Int),(r=.c (.v (.int .i64 y0))∧bs=[.ptr [.c (.sl 1 y1 none),.c (.v (.int .i64 y2)),.c (.v (.int .i64 y3))]])∧K0 y0 y1 y2 y3)):=by
 obtain⟨O,hO⟩:∃ O,O=std 1 T G0 (Den Try.prog G0):=⟨_,rfl⟩
 have hLO:L=O.len:=by rw [hN,hO];rfl
 subst hLO
 refine den_h hO tiA mixed tabOk (fn:=Try.f23) (sh:=true) (by kernel_rfl) rfl rfl rfl rfl ?_
 intro Q b
 unfold p23 at h
 conv=>cbv
 refine z0d hO [.ref 3] (d_p45 fu O.len hN h) ?_
 intro e Q a b
 conv=>cbv
 refine⟨by subst a hO;rfl,?_⟩
 intro r bs d
 rw [b] at d
 clear a b h
 obtain⟨y1,y2,y3,y4,⟨rfl,rfl⟩,h⟩:=d
 conv=>cbv
 refine br_h hO h (by subst hO;rfl) (fun k1 h=>?_) (fun k1 h=>?_)
 conv=>cbv
 refine z0d hO [.ref 3,.shut] (d_p46 fu O.len hN h) ?_
 intro e Q a b
 conv=>cbv
 refine⟨by subst a hO;rfl,?_⟩
 intro r bs d
 rw [b] at d
 clear a b h
 obtain⟨y5,y6,y7,_,⟨rfl,rfl⟩,h⟩:=d
 conv=>cbv
 rw [b]
 exact⟨0,y5,y6,y7,⟨(by subst hO;rfl),(by subst hO;rfl)⟩,h⟩
 conv=>cbv
 refine z0b hO ?_
 conv=>cbv
 rw [b]
 exact⟨IntKind.i64.wrap y1,y2,y3,y4,⟨(by subst hO;rfl),(by subst hO;rfl)⟩,h⟩
theorem d_p47 (fu:Nat){K0:Int→Int→Prop}(L:EL→Nat)(hN:L=List.length){x0:EL}(h:p47 False fu K0 x0):Den Try.prog G0 47 [.c (.sl 1 x0 none)] (fun r bs=>(∃ (y0 y1:Int) (o0:OV),(r=.tup [.c (.v (.int .u64 y0)),.c (.v (.int .i64 y1))]∧bs=[o0])∧K0 y0 y1)):=by
 obtain⟨O,hO⟩:∃ O,O=std 0 T G0 (Den Try.prog G0):=⟨_,rfl⟩
 have hLO:L=O.len:=by rw [hN,hO];rfl
 subst hLO
 refine den_h hO tiA mixed tabOk (fn:=Try.f47) (sh:=true) (by kernel_rfl) rfl rfl rfl rfl ?_
 intro Q b
 unfold p47 at h
 conv=>cbv
 refine br_h hO h (by subst hO;rfl) (fun k1 h=>?_) (fun k1 h=>?_)
 conv=>cbv
 rw [b]
 exact⟨0,2,_,⟨(by subst hO;rfl),(by subst hO;rfl)⟩,h⟩
 conv=>cbv
 refine z0b hO ?_
 conv=>cbv
 refine z0r hO tiA [0,4,5] [] [] (fun (n:Nat) tm m=>∃ (z1:Int) (z2:Int),((tm=frame 0 22 [(0,.c (.sl 1 x0 none)),(4,.c (.v (.int .u64 z1))),(5,.c (.v (.int .i64 z2)))]∧m=⟨[],1⟩))∧p47_1L False fu K0 x0 n z1 z2) (fun n=>n) fu ⟨0,0,⟨(by (conv=>lhs;cbv)<;>(subst hO;rfl)),(by (conv=>lhs;cbv)<;>(subst hO;rfl))⟩,h⟩ ?_
 rintro n1 tm m L ⟨z1,z2,hs,h⟩ hLn1
 (cases n1 with
 | zero=>rw [p47_1L] at h;exact h.elim
 | succ n1 =>
 rw [p47_1L] at h
 unfold p47_1 at h
 obtain⟨rfl,rfl⟩:=hs
 conv=>cbv
 refine br_h hO h (by subst hO;rfl) (fun k2 h=>?_) (fun k2 h=>?_)
 conv=>cbv
 refine z0b hO ?_
 conv=>cbv
 refine and_h h (fun g=>(by subst hO;exact g)) (fun h=>?_)
 refine and_h h (fun g=>(by subst hO;exact g)) (fun h=>?_)
 obtain⟨c3,hr,h⟩:=z2s h
 refine z1a hO _ (by subst hO;exact hr) ?_
 clear hr
 conv=>cbv
 exact hLn1 n1 _ _ (Nat.lt_succ_self n1) ⟨z0c .add .u64 (z0c .mul .u64 z1 256) (IntKind.u64.wrap c3),z0c .add .i64 z2 1,⟨(by (conv=>lhs;cbv)<;>(subst hO;rfl)),(by (conv=>lhs;cbv)<;>(subst hO;rfl))⟩,h⟩
 conv=>cbv
 rw [b]
 exact⟨z1,0,_,⟨(by subst hO;rfl),(by subst hO;rfl)⟩,h⟩)
theorem d_p24 (fu:Nat){K0:Int→Int→EL→Int→Int→Prop}(L:EL→Nat)(hN:L=List.length){x0:EL}{x1 x2:Int}(h:p24 False fu K0 x0 x1 x2):Den Try.prog G0 24 [.ptr [.c (.sl 1 x0 none),.c (.v (.int .i64 x1)),.c (.v (.int .i64 x2))]] (fun r bs=>(∃ (y0 y1:Int) (y2:EL) (y3 y4:Int),(r=.agg [.c (.v (.int .u64 y0)),.c (.v (.int .u64 y1))]∧bs=[.ptr [.c (.sl 1 y2 none),.c (.v (.int .i64 y3)),.c (.v (.int .i64 y4))]])∧K0 y0 y1 y2 y3 y4)):=by
 obtain⟨O,hO⟩:∃ O,O=std 1 T G0 (Den Try.prog G0):=⟨_,rfl⟩
 have hLO:L=O.len:=by rw [hN,hO];rfl
 subst hLO
 refine den_h hO tiA mixed tabOk (fn:=Try.f24) (sh:=true) (by kernel_rfl) rfl rfl rfl rfl ?_
 intro Q b
 unfold p24 at h
 conv=>cbv
 refine br_h hO h (by subst hO;rfl) (fun k1 h=>?_) (fun k1 h=>?_)
 conv=>cbv
 rw [b]
 exact⟨0,0,x0,x1,x2,⟨(by subst hO;rfl),(by subst hO;rfl)⟩,h⟩
 conv=>cbv
 refine z0b hO ?_
 conv=>cbv
 refine z0o hO tiA [[]] [(0,true,false),(1,true,false),(2,true,false),(3,true,false),(4,true,false),(5,true,false),(6,true,false),(7,true,false),(8,true,false),(9,true,true),(10,true,true)] (by kernel_rfl) ?_
 conv=>cbv
 refine z0b hO ?_
 conv=>cbv
 refine br_h hO h (by subst hO;rfl) (fun k2 h=>?_) (fun k2 h=>?_)
 conv=>cbv
 rw [b]
 exact⟨0,0,x0,x1,2,⟨(by subst hO;rfl),(by subst hO;rfl)⟩,h⟩
 conv=>cbv
 refine z0b hO ?_
 conv=>cbv
 refine z0o hO tiA [[],[]] [(0,true,false),(1,true,false),(2,true,false),(3,true,false),(4,true,false),(5,true,false),(6,true,false),(7,true,false),(8,true,false),(9,false,true),(10,true,true),(11,true,true),(12,true,true),(13,true,true),(14,true,true)] (by kernel_rfl) ?_
 conv=>cbv
 refine and_h h (fun g=>(by subst hO;exact g)) (fun h=>?_)
 refine and_h h (fun g=>(by subst hO;exact g)) (fun h=>?_)
 refine and_h h (fun g=>(by subst hO;exact g)) (fun h=>?_)
 refine z0d hO [.shut] (d_p47 fu O.len hN h) ?_
 intro e Q a b
 conv=>cbv
 refine⟨by subst a hO;rfl,?_⟩
 intro r bs d
 rw [b] at d
 clear a b h
 obtain⟨y1,y2,_,⟨rfl,rfl⟩,h⟩:=d
 conv=>cbv
 refine z0b hO ?_
 conv=>cbv
 refine z0o hO tiA [[],[]] [(0,true,false),(1,true,false),(2,true,false),(3,true,false),(4,true,false),(5,true,false),(6,true,false),(7,true,false),(8,true,false),(9,true,false),(10,false,true),(11,true,true),(12,true,false),(13,true,false),(14,true,true),(15,true,true)] (by kernel_rfl) ?_
 conv=>cbv
 refine and_h h (fun g=>(by subst hO;exact g)) (fun h=>?_)
 refine and_h h (fun g=>(by subst hO;exact g)) (fun h=>?_)
 refine and_h h (fun g=>(by subst hO;exact g)) (fun h=>?_)
 refine z0d hO [.shut] (d_p47 fu O.len hN h) ?_
 intro e Q a b
 conv=>cbv
 refine⟨by subst a hO;rfl,?_⟩
 intro r bs d
 rw [b] at d
 clear a b h
 obtain⟨y3,y4,_,⟨rfl,rfl⟩,h⟩:=d
 conv=>cbv
 refine z0b hO ?_
 conv=>cbv
 rw [b]
 exact⟨y1,y3,x0,z0c .add .i64 x1 16,x2,⟨(by subst hO;rfl),(by subst hO;rfl)⟩,h⟩
theorem d_p48 (fu:Nat){K0:Int→EL→Int→Int→Prop}(L:EL→Nat)(hN:L=List.length){x0:EL}{x1 x2 x3 x4:Int}(h:p48 False fu K0 x0 x1 x2 x3 x4):Den Try.prog G0 48 [.ptr [.c (.sl 1 x0 none),.c (.v (.int .i64 x1)),.c (.v (.int .i64 x2))],.c (.v (.int .u64 x3)),.c (.v (.int .u64 x4))] (fun r bs=>(∃ (y0:Int) (y1:EL) (y2 y3:Int) (o1 o2:OV),(r=.c (.v (.int .i64 y0))∧bs=[.ptr [.c (.sl 1 y1 none),.c (.v (.int .i64 y2)),.c (.v (.int .i64 y3))],o1,o2])∧K0 y0 y1 y2 y3)):=by
 obtain⟨O,hO⟩:∃ O,O=std 1 T G0 (Den Try.prog G0):=⟨_,rfl⟩
 have hLO:L=O.len:=by rw [hN,hO];rfl
 subst hLO
 refine den_h hO tiA mixed tabOk (fn:=Try.f48) (sh:=true) (by kernel_rfl) rfl rfl rfl rfl ?_
 intro Q b
 unfold p48 at h
 conv=>cbv
 refine z0d hO [.ref 3] (d_p45 fu O.len hN h) ?_
 intro e Q a b
 conv=>cbv
 refine⟨by subst a hO;rfl,?_⟩
 intro r bs d
 rw [b] at d
 clear a b h
 obtain⟨y1,y2,y3,y4,⟨rfl,rfl⟩,h⟩:=d
 conv=>cbv
 refine z0g hO tiA [0,7,24] [0] [] (fun tm m=>∃ (j5:Bool),((tm=frame 0 34 [(0,.p 0 0 0),(7,.c (.v (.int .u64 y1))),(24,.c (.v (.bool j5)))]∧m=⟨[(0,.blk 0 [.c (.sl 1 y2 none),.c (.v (.int .i64 y3)),.c (.v (.int .i64 y4))])],2⟩))∧p48_2 False fu K0 y1 y2 y3 y4 j5) (fun L hL_2=>?_) ?_
 conv=>cbv
 refine br_h hO h (by subst hO;rfl) (fun k3 h=>?_) (fun k3 h=>?_)
 conv=>cbv
 refine br_t hO k3 ?_
 conv=>cbv
 refine br_t hO k3 ?_
 conv=>cbv
 refine br_t hO k3 ?_
 conv=>cbv
 refine br_h hO h (by subst hO;rfl) (fun k4 h=>?_) (fun k4 h=>?_)
 conv=>cbv
 refine br_t hO k4 ?_
 conv=>cbv
 refine br_t hO k4 ?_
 conv=>cbv
 refine br_t hO k3 ?_
 conv=>cbv
 refine br_t hO k4 ?_
 conv=>cbv
 refine br_t hO k3 ?_
 conv=>cbv
 exact hL_2 _ _ ⟨true,⟨(by (conv=>lhs;cbv)<;>(subst hO;rfl)),(by (conv=>lhs;cbv)<;>(subst hO;rfl))⟩,h⟩
 conv=>cbv
 refine br_f hO k4 ?_
 conv=>cbv
 refine br_f hO k4 ?_
 conv=>cbv
 refine br_t hO k3 ?_
 conv=>cbv
 refine br_f hO k4 ?_
 conv=>cbv
 refine br_t hO k3 ?_
 conv=>cbv
 exact hL_2 _ _ ⟨(z0a .gtr y1 x4),⟨(by (conv=>lhs;cbv)<;>(subst hO;rfl)),(by (conv=>lhs;cbv)<;>(subst hO;rfl))⟩,h⟩
 conv=>cbv
 refine br_f hO k3 ?_
 conv=>cbv
 refine br_f hO k3 ?_
 conv=>cbv
 refine br_f hO k3 ?_
 conv=>cbv
 refine br_f hO k3 ?_
 conv=>cbv
 refine br_f hO k3 ?_
 conv=>cbv
 exact hL_2 _ _ ⟨false,⟨(by (conv=>lhs;cbv)<;>(subst hO;rfl)),(by (conv=>lhs;cbv)<;>(subst hO;rfl))⟩,h⟩
 rintro tm m ⟨j5,hs,h⟩
 unfold p48_2 at h
 obtain⟨rfl,rfl⟩:=hs
 conv=>cbv
 refine z0e hO tiA h (by subst hO;rfl) [0,7] [0] [] (fun tm m=>∃ (j6:EL) (j7:Int) (j8:Int),((tm=frame 0 34 [(0,.p 0 0 0),(7,.c (.v (.int .u64 y1)))]∧m=⟨[(0,.blk 0 [.c (.sl 1 j6 none),.c (.v (.int .i64 j7)),.c (.v (.int .i64 j8))])],2⟩))∧p48_1 False fu K0 y1 j6 j7 j8) (fun k2 h L hL_1=>?_) (fun k2 h L hL_1=>?_) ?_
 conv=>cbv
 refine z0d hO [.ref 3,.shut] (d_p46 fu O.len hN h) ?_
 intro e Q a b
 conv=>cbv
 refine⟨by subst a hO;rfl,?_⟩
 intro r bs d
 rw [b] at d
 clear a b h
 obtain⟨y9,y10,y11,_,⟨rfl,rfl⟩,h⟩:=d
 conv=>cbv
 exact hL_1 _ _ ⟨y9,y10,y11,⟨(by (conv=>lhs;cbv)<;>(subst hO;rfl)),(by (conv=>lhs;cbv)<;>(subst hO;rfl))⟩,h⟩
 conv=>cbv
 exact hL_1 _ _ ⟨y2,y3,y4,⟨(by (conv=>lhs;cbv)<;>(subst hO;rfl)),(by (conv=>lhs;cbv)<;>(subst hO;rfl))⟩,h⟩
 rintro tm m ⟨j6,j7,j8,hs,h⟩
 unfold p48_1 at h
 obtain⟨rfl,rfl⟩:=hs
 conv=>cbv
 refine br_h hO h (by subst hO;rfl) (fun k1 h=>?_) (fun k1 h=>?_)
 conv=>cbv
 rw [b]
 exact⟨0,j6,j7,j8,_,_,⟨(by subst hO;rfl),(by subst hO;rfl)⟩,h⟩
 conv=>cbv
 refine z0b hO ?_
 conv=>cbv
 rw [b]
 exact⟨IntKind.i64.wrap y1,j6,j7,j8,_,_,⟨(by subst hO;rfl),(by subst hO;rfl)⟩,h⟩
theorem d_p50 (fu:Nat){K0:EL→Int→Int→Prop}(L:EL→Nat)(hN:L=List.length){x0:EL}{x1:Int}(h:p50 False fu K0 x0 x1):Den Try.prog G0 50 [.c (.sl 1 x0 none),.c (.v (.int .i64 x1))] (fun r bs=>(∃ (y0:EL) (y1 y2:Int) (o0 o1:OV),(r=.tup [.c (.sl 1 y0 none),.c (.v (.int .i64 y1)),.c (.v (.int .i64 y2))]∧bs=[o0,o1])∧K0 y0 y1 y2)):=by
 obtain⟨O,hO⟩:∃ O,O=std 0 T G0 (Den Try.prog G0):=⟨_,rfl⟩
 have hLO:L=O.len:=by rw [hN,hO];rfl
 subst hLO
 refine den_h hO tiA mixed tabOk (fn:=Try.f50) (sh:=true) (by kernel_rfl) rfl rfl rfl rfl ?_
 intro Q b
 unfold p50 at h
 conv=>cbv
 refine z0d hO [.shut] (d_p21 fu O.len hN h) ?_
 intro e Q a b
 conv=>cbv
 refine⟨by subst a hO;rfl,?_⟩
 intro r bs d
 rw [b] at d
 clear a b h
 obtain⟨y1,y2,y3,_,⟨rfl,rfl⟩,h⟩:=d
 conv=>cbv
 refine br_h hO h (by subst hO;rfl) (fun k1 h=>?_) (fun k1 h=>?_)
 conv=>cbv
 rw [b]
 exact⟨nilE,0,y3,_,_,⟨(by subst hO;rfl),(by subst hO;rfl)⟩,h⟩
 conv=>cbv
 refine z0b hO ?_
 conv=>cbv
 refine br_h hO h (by subst hO;rfl) (fun k2 h=>?_) (fun k2 h=>?_)
 conv=>cbv
 rw [b]
 exact⟨nilE,0,3,_,_,⟨(by subst hO;rfl),(by subst hO;rfl)⟩,h⟩
 conv=>cbv
 refine z0b hO ?_
 conv=>cbv
 refine br_h hO h (by subst hO;rfl) (fun k3 h=>?_) (fun k3 h=>?_)
 conv=>cbv
 rw [b]
 exact⟨nilE,0,2,_,_,⟨(by subst hO;rfl),(by subst hO;rfl)⟩,h⟩
 conv=>cbv
 refine z0b hO ?_
 conv=>cbv
 refine and_h h (fun g=>(by subst hO;exact g)) (fun h=>?_)
 refine and_h h (fun g=>(by subst hO;exact g)) (fun h=>?_)
 refine and_h h (fun g=>(by subst hO;exact g)) (fun h=>?_)
 refine and_h h (fun g=>(by subst hO;exact g)) (fun h=>?_)
 refine and_h h (fun g=>(by subst hO;exact g)) (fun h=>?_)
 refine z0k hO ?_
 conv=>cbv
 rw [b]
 exact⟨(nilE++(List.drop ((y2:Int).toNat) (List.take ((z0c .add .i64 y2 (IntKind.i64.wrap y1):Int).toNat) x0))),z0c .add .i64 y2 (IntKind.i64.wrap y1),0,_,_,⟨(by subst hO;rfl),(by subst hO;rfl)⟩,h⟩
theorem d_p27 (fu:Nat){K0:ByteArray→EL→Int→Int→Prop}(L:EL→Nat)(hN:L=List.length){x0:EL}{x1 x2:Int}(h:p27 False fu K0 x0 x1 x2):Den Try.prog G0 27 [.ptr [.c (.sl 1 x0 none),.c (.v (.int .i64 x1)),.c (.v (.int .i64 x2))]] (fun r bs=>(∃ (y0:ByteArray) (y1:EL) (y2 y3:Int),(r=.c (.v (.string y0))∧bs=[.ptr [.c (.sl 1 y1 none),.c (.v (.int .i64 y2)),.c (.v (.int .i64 y3))]])∧K0 y0 y1 y2 y3)):=by
 obtain⟨O,hO⟩:∃ O,O=std 1 T G0 (Den Try.prog G0):=⟨_,rfl⟩
 have hLO:L=O.len:=by rw [hN,hO];rfl
 subst hLO
 refine den_h hO tiA mixed tabOk (fn:=Try.f27) (sh:=true) (by kernel_rfl) rfl rfl rfl rfl ?_
 intro Q b
 unfold p27 at h
 conv=>cbv
 refine br_h hO h (by subst hO;rfl) (fun k1 h=>?_) (fun k1 h=>?_)
 conv=>cbv
 rw [b]
 exact⟨⟨#[]⟩,x0,x1,x2,⟨(by subst hO;rfl),(by subst hO;rfl)⟩,h⟩
 conv=>cbv
 refine z0b hO ?_
 conv=>cbv
 refine z0o hO tiA [[],[]] [(0,true,false),(1,true,false),(2,true,false),(3,true,false),(4,true,false),(5,true,false),(6,true,false),(7,true,false),(8,true,false),(9,false,true),(10,true,true),(11,true,true),(12,true,true),(13,true,true),(14,true,true),(15,true,true),(16,true,true)] (by kernel_rfl) ?_
 conv=>cbv
 refine and_h h (fun g=>(by subst hO;exact g)) (fun h=>?_)
 refine and_h h (fun g=>(by subst hO;exact g)) (fun h=>?_)
 refine and_h h (fun g=>(by subst hO;exact g)) (fun h=>?_)
 refine z0d hO [.shut,.shut] (d_p50 fu O.len hN h) ?_
 intro e Q a b
 conv=>cbv
 refine⟨by subst a hO;rfl,?_⟩
 intro r bs d
 rw [b] at d
 clear a b h
 obtain⟨y1,y2,y3,_,_,⟨rfl,rfl⟩,h⟩:=d
 conv=>cbv
 refine z0b hO ?_
 conv=>cbv
 refine br_h hO h (by subst hO;rfl) (fun k2 h=>?_) (fun k2 h=>?_)
 conv=>cbv
 refine z0d hO [.ref 3,.shut] (d_p46 fu O.len hN h) ?_
 intro e Q a b
 conv=>cbv
 refine⟨by subst a hO;rfl,?_⟩
 intro r bs d
 rw [b] at d
 clear a b h
 obtain⟨y4,y5,y6,_,⟨rfl,rfl⟩,h⟩:=d
 conv=>cbv
 rw [b]
 exact⟨⟨#[]⟩,y4,y5,y6,⟨(by subst hO;rfl),(by subst hO;rfl)⟩,h⟩
 conv=>cbv
 refine z0b hO ?_
 conv=>cbv
 refine tob_h hO h (by subst hO;rfl) (fun s7 h=>?_)
 conv=>cbv
 rw [b]
 exact⟨s7,x0,z0c .add .i64 x1 y2,x2,⟨(by subst hO;rfl),(by subst hO;rfl)⟩,h⟩
def D_p73 (fu:Nat):Prop:=∀ {K0:Int→Int→EL→EL→Int→Int→Int→Prop} (L:EL→Nat) (_:L=List.length) {x0:EL} {x1 x2 x3 x4:Int} (_:p73 False fu K0 x0 x1 x2 x3 x4),Den Try.prog G0 73 [.ptr [.c (.sl 1 x0 none),.c (.v (.int .i64 x1)),.c (.v (.int .i64 x2))],.c (.v (.int .i64 x3)),.ptr [.c (.v (.int .i64 x4))]] (fun r bs=>(∃ (y0 y1:Int) (y2 y3:EL) (y4 y5 y6:Int) (o1:OV),(r=.agg [.c (.v (.int .i64 y0)),.c (.v (.int .i64 y1)),.c (.sl 3 y2 none)]∧bs=[.ptr [.c (.sl 1 y3 none),.c (.v (.int .i64 y4)),.c (.v (.int .i64 y5))],o1,.ptr [.c (.v (.int .i64 y6))]])∧K0 y0 y1 y2 y3 y4 y5 y6))
theorem b_p73 (fu:Nat)(ih_p73:D_p73 fu){K0:Int→Int→EL→EL→Int→Int→Int→Prop}(L:EL→Nat)(hN:L=List.length){x0:EL}{x1 x2 x3 x4:Int}(h:p73_b False fu (p73 False fu) K0 x0 x1 x2 x3 x4):Den Try.prog G0 73 [.ptr [.c (.sl 1 x0 none),.c (.v (.int .i64 x1)),.c (.v (.int .i64 x2))],.c (.v (.int .i64 x3)),.ptr [.c (.v (.int .i64 x4))]] (fun r bs=>(∃ (y0 y1:Int) (y2 y3:EL) (y4 y5 y6:Int) (o1:OV),(r=.agg [.c (.v (.int .i64 y0)),.c (.v (.int .i64 y1)),.c (.sl 3 y2 none)]∧bs=[.ptr [.c (.sl 1 y3 none),.c (.v (.int .i64 y4)),.c (.v (.int .i64 y5))],o1,.ptr [.c (.v (.int .i64 y6))]])∧K0 y0 y1 y2 y3 y4 y5 y6)):=by
 obtain⟨O,hO⟩:∃ O,O=std 2 T G0 (Den Try.prog G0):=⟨_,rfl⟩
 have hLO:L=O.len:=by rw [hN,hO];rfl
 subst hLO
 refine den_h hO tiA mixed tabOk (fn:=Try.f73) (sh:=true) (by kernel_rfl) rfl rfl rfl rfl ?_
 intro Q b
 unfold p73_b at h
 conv=>cbv
 refine z0e hO tiA h (by subst hO;rfl) [0,1,2,6] [0,1,7000] [] (fun tm m=>∃ (j1:EL) (j2:Int) (j3:Int),((tm=frame 0 69 [(0,.p 0 0 0),(1,.c (.v (.int .i64 x3))),(2,.p 1 1 0),(6,.p 7000 2 0)]∧m=⟨[(0,.blk 0 [.c (.sl 1 j1 none),.c (.v (.int .i64 j2)),.c (.v (.int .i64 j3))]),(1,.blk 1 [.c (.v (.int .i64 x4))]),(7000,.blk 2 [.c (.v (.int .i64 0)),.c (.v (.int .i64 0)),.c (.sl 3 [] (some []))])],3⟩))∧p73_9 False fu (p73 False fu) K0 x3 x4 j1 j2 j3) (fun k9 h L hL_9=>?_) (fun k9 h L hL_9=>?_) ?_
 conv=>cbv
 refine z0d hO [.ref 3,.shut] (d_p46 fu O.len hN h) ?_
 intro e Q a b
 conv=>cbv
 refine⟨by subst a hO;rfl,?_⟩
 intro r bs d
 rw [b] at d
 clear a b h
 obtain⟨y55,y56,y57,_,⟨rfl,rfl⟩,h⟩:=d
 conv=>cbv
 exact hL_9 _ _ ⟨y55,y56,y57,⟨(by (conv=>lhs;cbv)<;>(subst hO;rfl)),(by (conv=>lhs;cbv)<;>(subst hO;rfl))⟩,h⟩
 conv=>cbv
 exact hL_9 _ _ ⟨x0,x1,x2,⟨(by (conv=>lhs;cbv)<;>(subst hO;rfl)),(by (conv=>lhs;cbv)<;>(subst hO;rfl))⟩,h⟩
 rintro tm m ⟨j1,j2,j3,hs,h⟩
 unfold p73_9 at h
 obtain⟨rfl,rfl⟩:=hs
 conv=>cbv
 refine z0e hO tiA h (by subst hO;rfl) [0,1,2,6] [0,1,7000] [] (fun tm m=>∃ (j4:EL) (j5:Int) (j6:Int),((tm=frame 0 69 [(0,.p 0 0 0),(1,.c (.v (.int .i64 x3))),(2,.p 1 1 0),(6,.p 7000 2 0)]∧m=⟨[(0,.blk 0 [.c (.sl 1 j4 none),.c (.v (.int .i64 j5)),.c (.v (.int .i64 j6))]),(1,.blk 1 [.c (.v (.int .i64 x4))]),(7000,.blk 2 [.c (.v (.int .i64 0)),.c (.v (.int .i64 0)),.c (.sl 3 [] (some []))])],3⟩))∧p73_8 False fu (p73 False fu) K0 x3 x4 j4 j5 j6) (fun k8 h L hL_8=>?_) (fun k8 h L hL_8=>?_) ?_
 conv=>cbv
 refine z0d hO [.ref 3,.shut] (d_p46 fu O.len hN h) ?_
 intro e Q a b
 conv=>cbv
 refine⟨by subst a hO;rfl,?_⟩
 intro r bs d
 rw [b] at d
 clear a b h
 obtain⟨y52,y53,y54,_,⟨rfl,rfl⟩,h⟩:=d
 conv=>cbv
 exact hL_8 _ _ ⟨y52,y53,y54,⟨(by (conv=>lhs;cbv)<;>(subst hO;rfl)),(by (conv=>lhs;cbv)<;>(subst hO;rfl))⟩,h⟩
 conv=>cbv
 exact hL_8 _ _ ⟨j1,j2,j3,⟨(by (conv=>lhs;cbv)<;>(subst hO;rfl)),(by (conv=>lhs;cbv)<;>(subst hO;rfl))⟩,h⟩
 rintro tm m ⟨j4,j5,j6,hs,h⟩
 unfold p73_8 at h
 obtain⟨rfl,rfl⟩:=hs
 conv=>cbv
 refine z0d hO [.ref 3,.shut,.shut] (d_p48 fu O.len hN h) ?_
 intro e Q a b
 conv=>cbv
 refine⟨by subst a hO;rfl,?_⟩
 intro r bs d
 rw [b] at d
 clear a b h
 obtain⟨y7,y8,y9,y10,_,_,⟨rfl,rfl⟩,h⟩:=d
 conv=>cbv
 refine z0e hO tiA h (by subst hO;rfl) [0,1,2,6,7,8] [0,1,7000,8000] [] (fun tm m=>∃ (j11:EL) (j12:Int) (j13:Int) (j14:Int) (j15:Int) (j16:Int),((tm=frame 0 69 [(0,.p 0 0 0),(1,.c (.v (.int .i64 x3))),(2,.p 1 1 0),(6,.p 7000 2 0),(7,.p 8000 2 0),(8,.c (.v (.int .i64 j16)))]∧m=⟨[(0,.blk 0 [.c (.sl 1 j11 none),.c (.v (.int .i64 j12)),.c (.v (.int .i64 j13))]),(1,.blk 1 [.c (.v (.int .i64 j14))]),(7000,.blk 2 [.c (.v (.int .i64 0)),.c (.v (.int .i64 0)),.c (.sl 3 [] (some []))]),(8000,.blk 2 [.c (.v (.int .i64 y7)),.c (.v (.int .i64 j15)),.c (.sl 3 [] (some []))])],3⟩))∧p73_3 False fu (p73 False fu) K0 x3 y7 j11 j12 j13 j14 j15 j16) (fun k3 h L hL_3=>?_) (fun k3 h L hL_3=>?_) ?_
 conv=>cbv
 exact hL_3 _ _ ⟨y8,y9,y10,z0c .sub .i64 x4 1,0,1,⟨(by (conv=>lhs;cbv)<;>(subst hO;rfl)),(by (conv=>lhs;cbv)<;>(subst hO;rfl))⟩,h⟩
 conv=>cbv
 refine z0e hO tiA h (by subst hO;rfl) [0,1,2,6,7,8,30,33] [0,1,7000,8000] [] (fun tm m=>∃ (j31:Int) (j32:Bool),((tm=frame 0 69 [(0,.p 0 0 0),(1,.c (.v (.int .i64 x3))),(2,.p 1 1 0),(6,.p 7000 2 0),(7,.p 8000 2 0),(8,.c (.v (.int .i64 0))),(30,.c (.v (.int .i64 y7))),(33,.c (.v (.bool j32)))]∧m=⟨[(0,.blk 0 [.c (.sl 1 y8 none),.c (.v (.int .i64 y9)),.c (.v (.int .i64 y10))]),(1,.blk 1 [.c (.v (.int .i64 j31))]),(7000,.blk 2 [.c (.v (.int .i64 0)),.c (.v (.int .i64 0)),.c (.sl 3 [] (some []))]),(8000,.blk 2 [.c (.v (.int .i64 y7)),.c (.v (.int .i64 0)),.c (.sl 3 [] (some []))])],3⟩))∧p73_7 False fu (p73 False fu) K0 x3 y7 y8 y9 y10 j31 j32) (fun k7 h L hL_7=>?_) (fun k7 h L hL_7=>?_) ?_
 conv=>cbv
 exact hL_7 _ _ ⟨z0c .sub .i64 x4 1,(z0a .eql y7 2),⟨(by (conv=>lhs;cbv)<;>(subst hO;rfl)),(by (conv=>lhs;cbv)<;>(subst hO;rfl))⟩,h⟩
 conv=>cbv
 exact hL_7 _ _ ⟨z0c .sub .i64 x4 1,(z0a .eql y7 3),⟨(by (conv=>lhs;cbv)<;>(subst hO;rfl)),(by (conv=>lhs;cbv)<;>(subst hO;rfl))⟩,h⟩
 rintro tm m ⟨j31,j32,hs,h⟩
 unfold p73_7 at h
 obtain⟨rfl,rfl⟩:=hs
 conv=>cbv
 refine z0e hO tiA h (by subst hO;rfl) [0,1,2,6,7,8] [0,1,7000,8000] [] (fun tm m=>∃ (j33:EL) (j34:Int) (j35:Int) (j36:Int) (j37:Int),((tm=frame 0 69 [(0,.p 0 0 0),(1,.c (.v (.int .i64 x3))),(2,.p 1 1 0),(6,.p 7000 2 0),(7,.p 8000 2 0),(8,.c (.v (.int .i64 j37)))]∧m=⟨[(0,.blk 0 [.c (.sl 1 j33 none),.c (.v (.int .i64 j34)),.c (.v (.int .i64 j35))]),(1,.blk 1 [.c (.v (.int .i64 j31))]),(7000,.blk 2 [.c (.v (.int .i64 0)),.c (.v (.int .i64 0)),.c (.sl 3 [] (some []))]),(8000,.blk 2 [.c (.v (.int .i64 y7)),.c (.v (.int .i64 j36)),.c (.sl 3 [] (some []))])],3⟩))∧p73_4 False fu (p73 False fu) K0 x3 y7 j31 j33 j34 j35 j36 j37) (fun k4 h L hL_4=>?_) (fun k4 h L hL_4=>?_) ?_
 conv=>cbv
 exact hL_4 _ _ ⟨y8,y9,y10,0,2,⟨(by (conv=>lhs;cbv)<;>(subst hO;rfl)),(by (conv=>lhs;cbv)<;>(subst hO;rfl))⟩,h⟩
 conv=>cbv
 refine z0e hO tiA h (by subst hO;rfl) [0,1,2,6,7,8] [0,1,7000,8000] [] (fun tm m=>∃ (j38:EL) (j39:Int) (j40:Int) (j41:Int),((tm=frame 0 69 [(0,.p 0 0 0),(1,.c (.v (.int .i64 x3))),(2,.p 1 1 0),(6,.p 7000 2 0),(7,.p 8000 2 0),(8,.c (.v (.int .i64 0)))]∧m=⟨[(0,.blk 0 [.c (.sl 1 j38 none),.c (.v (.int .i64 j39)),.c (.v (.int .i64 j40))]),(1,.blk 1 [.c (.v (.int .i64 j31))]),(7000,.blk 2 [.c (.v (.int .i64 0)),.c (.v (.int .i64 0)),.c (.sl 3 [] (some []))]),(8000,.blk 2 [.c (.v (.int .i64 y7)),.c (.v (.int .i64 j41)),.c (.sl 3 [] (some []))])],3⟩))∧p73_5 False fu (p73 False fu) K0 x3 y7 j31 j38 j39 j40 j41) (fun k5 h L hL_5=>?_) (fun k5 h L hL_5=>?_) ?_
 conv=>cbv
 refine z0d hO [.ref 3] (d_p23 fu O.len hN h) ?_
 intro e Q a b
 conv=>cbv
 refine⟨by subst a hO;rfl,?_⟩
 intro r bs d
 rw [b] at d
 clear a b h
 obtain⟨y42,y43,y44,y45,⟨rfl,rfl⟩,h⟩:=d
 conv=>cbv
 refine z0e hO tiA h (by subst hO;rfl) [0,1,2,6,7,8] [0,1,7000,8000] [] (fun tm m=>∃ (j46:EL) (j47:Int) (j48:Int),((tm=frame 0 69 [(0,.p 0 0 0),(1,.c (.v (.int .i64 x3))),(2,.p 1 1 0),(6,.p 7000 2 0),(7,.p 8000 2 0),(8,.c (.v (.int .i64 0)))]∧m=⟨[(0,.blk 0 [.c (.sl 1 j46 none),.c (.v (.int .i64 j47)),.c (.v (.int .i64 j48))]),(1,.blk 1 [.c (.v (.int .i64 j31))]),(7000,.blk 2 [.c (.v (.int .i64 0)),.c (.v (.int .i64 0)),.c (.sl 3 [] (some []))]),(8000,.blk 2 [.c (.v (.int .i64 y7)),.c (.v (.int .i64 y42)),.c (.sl 3 [] (some []))])],3⟩))∧p73_6 False fu (p73 False fu) K0 x3 y7 j31 y42 j46 j47 j48) (fun k6 h L hL_6=>?_) (fun k6 h L hL_6=>?_) ?_
 conv=>cbv
 refine z0d hO [.ref 3,.shut] (d_p46 fu O.len hN h) ?_
 intro e Q a b
 conv=>cbv
 refine⟨by subst a hO;rfl,?_⟩
 intro r bs d
 rw [b] at d
 clear a b h
 obtain⟨y49,y50,y51,_,⟨rfl,rfl⟩,h⟩:=d
 conv=>cbv
 exact hL_6 _ _ ⟨y49,y50,y51,⟨(by (conv=>lhs;cbv)<;>(subst hO;rfl)),(by (conv=>lhs;cbv)<;>(subst hO;rfl))⟩,h⟩
 conv=>cbv
 exact hL_6 _ _ ⟨y43,y44,y45,⟨(by (conv=>lhs;cbv)<;>(subst hO;rfl)),(by (conv=>lhs;cbv)<;>(subst hO;rfl))⟩,h⟩
 rintro tm m ⟨j46,j47,j48,hs,h⟩
 unfold p73_6 at h
 obtain⟨rfl,rfl⟩:=hs
 conv=>cbv
 exact hL_5 _ _ ⟨j46,j47,j48,y42,⟨(by (conv=>lhs;cbv)<;>(subst hO;rfl)),(by (conv=>lhs;cbv)<;>(subst hO;rfl))⟩,h⟩
 conv=>cbv
 exact hL_5 _ _ ⟨y8,y9,y10,0,⟨(by (conv=>lhs;cbv)<;>(subst hO;rfl)),(by (conv=>lhs;cbv)<;>(subst hO;rfl))⟩,h⟩
 rintro tm m ⟨j38,j39,j40,j41,hs,h⟩
 unfold p73_5 at h
 obtain⟨rfl,rfl⟩:=hs
 conv=>cbv
 exact hL_4 _ _ ⟨j38,j39,j40,j41,0,⟨(by (conv=>lhs;cbv)<;>(subst hO;rfl)),(by (conv=>lhs;cbv)<;>(subst hO;rfl))⟩,h⟩
 rintro tm m ⟨j33,j34,j35,j36,j37,hs,h⟩
 unfold p73_4 at h
 obtain⟨rfl,rfl⟩:=hs
 conv=>cbv
 exact hL_3 _ _ ⟨j33,j34,j35,j31,j36,j37,⟨(by (conv=>lhs;cbv)<;>(subst hO;rfl)),(by (conv=>lhs;cbv)<;>(subst hO;rfl))⟩,h⟩
 rintro tm m ⟨j11,j12,j13,j14,j15,j16,hs,h⟩
 unfold p73_3 at h
 obtain⟨rfl,rfl⟩:=hs
 conv=>cbv
 refine z0r hO tiA [0,1,2,6,7,8,9] [0,1,7000,8000,67000] [] (fun (n:Nat) tm m=>∃ (z17:EL) (z18:Int) (z19:Int) (z20:Int) (z21:EL) (z22:Int),((z21=[]∧tm=frame 0 69 [(0,.p 0 0 0),(1,.c (.v (.int .i64 x3))),(2,.p 1 1 0),(6,.p 7000 2 0),(7,.p 8000 2 0),(8,.c (.v (.int .i64 j16))),(9,.c (.v (.int .i64 z22)))]∧m=⟨[(0,.blk 0 [.c (.sl 1 z17 none),.c (.v (.int .i64 z18)),.c (.v (.int .i64 z19))]),(1,.blk 1 [.c (.v (.int .i64 z20))]),(7000,.blk 2 [.c (.v (.int .i64 0)),.c (.v (.int .i64 0)),.c (.sl 3 [] (some []))]),(8000,.blk 2 [.c (.v (.int .i64 y7)),.c (.v (.int .i64 j15)),.c (.sl 3 [] (some []))])],3⟩)∨(tm=frame 0 69 [(0,.p 0 0 0),(1,.c (.v (.int .i64 x3))),(2,.p 1 1 0),(6,.p 7000 2 0),(7,.p 8000 2 0),(8,.c (.v (.int .i64 j16))),(9,.c (.v (.int .i64 z22)))]∧m=⟨[(0,.blk 0 [.c (.sl 1 z17 none),.c (.v (.int .i64 z18)),.c (.v (.int .i64 z19))]),(1,.blk 1 [.c (.v (.int .i64 z20))]),(7000,.blk 2 [.c (.v (.int .i64 0)),.c (.v (.int .i64 0)),.c (.sl 3 [] (some []))]),(8000,.blk 2 [.c (.v (.int .i64 y7)),.c (.v (.int .i64 j15)),.t 67000 2 (O.len z21)]),(67000,.arr 2 3 z21 none false)],3⟩))∧p73_2L False fu (p73 False fu) K0 x3 y7 j15 j16 n z17 z18 z19 z20 z21 z22) (fun n=>n) fu ⟨j11,j12,j13,j14,nilE,0,(.inl ⟨rfl,(by (conv=>lhs;cbv)<;>(subst hO;rfl)),(by (conv=>lhs;cbv)<;>(subst hO;rfl))⟩),h⟩ ?_
 rintro n1 tm m L ⟨z17,z18,z19,z20,z21,z22,hs,h⟩ hLn1
 (cases n1 with
 | zero=>rw [p73_2L] at h;exact h.elim
 | succ n1 =>
 rw [p73_2L] at h
 unfold p73_2 at h
 rcases hs with hs | hs
 obtain⟨rfl,rfl,rfl⟩:=hs
 conv=>cbv
 refine z0g hO tiA [0,1,2,6,7,8,9,55] [0,1,7000,8000] [] (fun tm m=>∃ (j23:Bool),((tm=frame 0 69 [(0,.p 0 0 0),(1,.c (.v (.int .i64 x3))),(2,.p 1 1 0),(6,.p 7000 2 0),(7,.p 8000 2 0),(8,.c (.v (.int .i64 j16))),(9,.c (.v (.int .i64 z22))),(55,.c (.v (.bool j23)))]∧m=⟨[(0,.blk 0 [.c (.sl 1 z17 none),.c (.v (.int .i64 z18)),.c (.v (.int .i64 z19))]),(1,.blk 1 [.c (.v (.int .i64 z20))]),(7000,.blk 2 [.c (.v (.int .i64 0)),.c (.v (.int .i64 0)),.c (.sl 3 [] (some []))]),(8000,.blk 2 [.c (.v (.int .i64 y7)),.c (.v (.int .i64 j15)),.c (.sl 3 [] (some []))])],3⟩))∧p73_1 False fu (p73 False fu) K0 (p73_2L False fu (p73 False fu) K0 x3 y7 j15 j16 n1) x3 y7 j15 z17 z18 z19 z20 nilE z22 j23) (fun L hL_1=>?_) ?_
 conv=>cbv
 refine br_h hO h (by subst hO;rfl) (fun k2 h=>?_) (fun k2 h=>?_)
 conv=>cbv
 refine br_t hO k2 ?_
 conv=>cbv
 refine br_t hO k2 ?_
 conv=>cbv
 refine br_t hO k2 ?_
 conv=>cbv
 refine br_t hO k2 ?_
 conv=>cbv
 refine br_t hO k2 ?_
 conv=>cbv
 exact hL_1 _ _ ⟨(z0a .eql z19 0),⟨(by (conv=>lhs;cbv)<;>(subst hO;rfl)),(by (conv=>lhs;cbv)<;>(subst hO;rfl))⟩,h⟩
 conv=>cbv
 refine br_f hO k2 ?_
 conv=>cbv
 refine br_f hO k2 ?_
 conv=>cbv
 refine br_f hO k2 ?_
 conv=>cbv
 refine br_f hO k2 ?_
 conv=>cbv
 refine br_f hO k2 ?_
 conv=>cbv
 exact hL_1 _ _ ⟨false,⟨(by (conv=>lhs;cbv)<;>(subst hO;rfl)),(by (conv=>lhs;cbv)<;>(subst hO;rfl))⟩,h⟩
 rintro tm m ⟨j23,hs,h⟩
 unfold p73_1 at h
 obtain⟨rfl,rfl⟩:=hs
 conv=>cbv
 refine br_h hO h (by subst hO;rfl) (fun k1 h=>?_) (fun k1 h=>?_)
 conv=>cbv
 refine z0b hO ?_
 conv=>cbv
 refine z0o hO tiA [[0,1],[],[],[],[]] [(0,true,false),(1,true,false),(2,true,false),(3,true,false),(4,true,false),(5,true,false),(6,false,false),(7,false,false),(8,false,true),(9,true,true),(10,false,true)] (by kernel_rfl) ?_
 conv=>cbv
 refine z0d hO [.ref 3,.shut,.ref 1] (ih_p73 O.len hN h) ?_
 intro e Q a b
 conv=>cbv
 refine⟨by subst a hO;rfl,?_⟩
 intro r bs d
 rw [b] at d
 clear a b h
 obtain⟨y24,y25,y26,y27,y28,y29,y30,_,⟨rfl,rfl⟩,h⟩:=d
 conv=>cbv
 refine agr hO rfl rfl ?_
 refine agr hO rfl rfl ?_
 refine z0z hO h (fun g=>(by subst hO;exact g)) (fun h=>?_)
 conv=>cbv
 refine and_h h (fun g=>(by subst hO;exact g)) (fun h=>?_)
 refine z2i hO (by subst hO;exact List.cons_ne_nil _ _) ?_
 conv=>cbv
 refine z0b hO ?_
 conv=>cbv
 exact hLn1 n1 _ _ (Nat.lt_succ_self n1) ⟨y27,y28,y29,y30,(nilE++(List.take 1 [[(CV.v (.int .i64 y24)),(CV.v (.int .i64 y25)),(CV.sl 3 y26 none)]])),z0c .add .i64 z22 1,(.inr ⟨(by (conv=>lhs;cbv)<;>(subst hO;rfl)),(by (conv=>lhs;cbv)<;>(subst hO;rfl))⟩),h⟩
 conv=>cbv
 rw [b]
 exact⟨y7,j15,nilE,z17,z18,z19,z20,_,⟨(by subst hO;rfl),(by subst hO;rfl)⟩,h⟩
 obtain⟨rfl,rfl⟩:=hs
 conv=>cbv
 refine z0g hO tiA [0,1,2,6,7,8,9,55] [0,1,7000,8000,67000] [] (fun tm m=>∃ (j23:Bool),((tm=frame 0 69 [(0,.p 0 0 0),(1,.c (.v (.int .i64 x3))),(2,.p 1 1 0),(6,.p 7000 2 0),(7,.p 8000 2 0),(8,.c (.v (.int .i64 j16))),(9,.c (.v (.int .i64 z22))),(55,.c (.v (.bool j23)))]∧m=⟨[(0,.blk 0 [.c (.sl 1 z17 none),.c (.v (.int .i64 z18)),.c (.v (.int .i64 z19))]),(1,.blk 1 [.c (.v (.int .i64 z20))]),(7000,.blk 2 [.c (.v (.int .i64 0)),.c (.v (.int .i64 0)),.c (.sl 3 [] (some []))]),(8000,.blk 2 [.c (.v (.int .i64 y7)),.c (.v (.int .i64 j15)),.t 67000 2 (O.len z21)]),(67000,.arr 2 3 z21 none false)],3⟩))∧p73_1 False fu (p73 False fu) K0 (p73_2L False fu (p73 False fu) K0 x3 y7 j15 j16 n1) x3 y7 j15 z17 z18 z19 z20 z21 z22 j23) (fun L hL_1=>?_) ?_
 conv=>cbv
 refine br_h hO h (by subst hO;rfl) (fun k2 h=>?_) (fun k2 h=>?_)
 conv=>cbv
 refine br_t hO k2 ?_
 conv=>cbv
 refine br_t hO k2 ?_
 conv=>cbv
 refine br_t hO k2 ?_
 conv=>cbv
 refine br_t hO k2 ?_
 conv=>cbv
 refine br_t hO k2 ?_
 conv=>cbv
 exact hL_1 _ _ ⟨(z0a .eql z19 0),⟨(by (conv=>lhs;cbv)<;>(subst hO;rfl)),(by (conv=>lhs;cbv)<;>(subst hO;rfl))⟩,h⟩
 conv=>cbv
 refine br_f hO k2 ?_
 conv=>cbv
 refine br_f hO k2 ?_
 conv=>cbv
 refine br_f hO k2 ?_
 conv=>cbv
 refine br_f hO k2 ?_
 conv=>cbv
 refine br_f hO k2 ?_
 conv=>cbv
 exact hL_1 _ _ ⟨false,⟨(by (conv=>lhs;cbv)<;>(subst hO;rfl)),(by (conv=>lhs;cbv)<;>(subst hO;rfl))⟩,h⟩
 rintro tm m ⟨j23,hs,h⟩
 unfold p73_1 at h
 obtain⟨rfl,rfl⟩:=hs
 conv=>cbv
 refine br_h hO h (by subst hO;rfl) (fun k1 h=>?_) (fun k1 h=>?_)
 conv=>cbv
 refine z0b hO ?_
 conv=>cbv
 refine z0o hO tiA [[0,1],[],[],[],[]] [(0,true,false),(1,true,false),(2,true,false),(3,true,false),(4,true,false),(5,true,false),(6,false,false),(7,false,false),(8,false,true),(9,true,true),(10,false,true)] (by kernel_rfl) ?_
 conv=>cbv
 refine z0d hO [.ref 3,.shut,.ref 1] (ih_p73 O.len hN h) ?_
 intro e Q a b
 conv=>cbv
 refine⟨by subst a hO;rfl,?_⟩
 intro r bs d
 rw [b] at d
 clear a b h
 obtain⟨y24,y25,y26,y27,y28,y29,y30,_,⟨rfl,rfl⟩,h⟩:=d
 conv=>cbv
 refine agr hO rfl rfl ?_
 refine agr hO rfl rfl ?_
 refine z0z hO h (fun g=>(by subst hO;exact g)) (fun h=>?_)
 conv=>cbv
 refine⟨(by subst hO;rfl),?_⟩
 refine and_h h (fun g=>(by subst hO;exact g)) (fun h=>?_)
 refine z0b hO ?_
 conv=>cbv
 exact hLn1 n1 _ _ (Nat.lt_succ_self n1) ⟨y27,y28,y29,y30,(z21++(List.take 1 [[(CV.v (.int .i64 y24)),(CV.v (.int .i64 y25)),(CV.sl 3 y26 none)]])),z0c .add .i64 z22 1,(.inr ⟨(by (conv=>lhs;cbv)<;>(subst hO;rfl)),(by (conv=>lhs;cbv)<;>(subst hO;rfl))⟩),h⟩
 conv=>cbv
 refine z0k hO ?_
 conv=>cbv
 rw [b]
 exact⟨y7,j15,z21,z17,z18,z19,z20,_,⟨(by subst hO;rfl),(by subst hO;rfl)⟩,h⟩)
theorem dd_p73 (fu:Nat):D_p73 fu:=by
 induction fu with
 | zero=>unfold D_p73;intros;rename_i h;rw [p73] at h;exact h.elim
 | succ n ih =>
  exact (by unfold D_p73;intro K0 L hN x0 x1 x2 x3 x4 h;exact b_p73 n ih L hN (by rw [p73] at h;exact h))
theorem d_p73 (fu:Nat):D_p73 fu:=dd_p73 fu
theorem d_p63 (fu:Nat){K0:Int→Int→EL→EL→Int→Int→Prop}(L:EL→Nat)(hN:L=List.length){x0:EL}{x1 x2:Int}(h:p63 False fu K0 x0 x1 x2):Den Try.prog G0 63 [.ptr [.c (.sl 1 x0 none),.c (.v (.int .i64 x1)),.c (.v (.int .i64 x2))]] (fun r bs=>(∃ (y0 y1:Int) (y2 y3:EL) (y4 y5:Int),(r=.agg [.c (.v (.int .i64 y0)),.c (.v (.int .i64 y1)),.c (.sl 3 y2 none)]∧bs=[.ptr [.c (.sl 1 y3 none),.c (.v (.int .i64 y4)),.c (.v (.int .i64 y5))]])∧K0 y0 y1 y2 y3 y4 y5)):=by
 obtain⟨O,hO⟩:∃ O,O=std 1 T G0 (Den Try.prog G0):=⟨_,rfl⟩
 have hLO:L=O.len:=by rw [hN,hO];rfl
 subst hLO
 refine den_h hO tiA mixed tabOk (fn:=Try.f63) (sh:=true) (by kernel_rfl) rfl rfl rfl rfl ?_
 intro Q b
 unfold p63 at h
 conv=>cbv
 refine z0d hO [.ref 3,.shut,.ref 1] (d_p73 fu O.len hN h) ?_
 intro e Q a b
 conv=>cbv
 refine⟨by subst a hO;rfl,?_⟩
 intro r bs d
 rw [b] at d
 clear a b h
 obtain⟨y1,y2,y3,y4,y5,y6,y7,_,⟨rfl,rfl⟩,h⟩:=d
 conv=>cbv
 rw [b]
 exact⟨y1,y2,y3,y4,y5,y6,⟨(by subst hO;rfl),(by subst hO;rfl)⟩,h⟩
theorem d_p64 (fu:Nat){K0:Int→Prop}(L:EL→Nat)(hN:L=List.length){x0:Int}(h:p64 False fu K0 x0):Den Try.prog G0 64 [.c (.v (.int .i64 x0))] (fun r bs=>(∃ (y0:Int) (o0:OV),(r=.c (.v (.int .i64 y0))∧bs=[o0])∧K0 y0)):=by
 obtain⟨O,hO⟩:∃ O,O=std 0 T G0 (Den Try.prog G0):=⟨_,rfl⟩
 have hLO:L=O.len:=by rw [hN,hO];rfl
 subst hLO
 refine den_h hO tiA mixed tabOk (fn:=Try.f64) (sh:=true) (by kernel_rfl) rfl rfl rfl rfl ?_
 intro Q b
 unfold p64 at h
 conv=>cbv
 refine z0e hO tiA h (by subst hO;rfl) [3,4] [] [] (fun tm m=>∃ (j1:Bool),((tm=frame 0 14 [(3,.c (.v (.int .i64 x0))),(4,.c (.v (.bool j1)))]∧m=⟨[],1⟩))∧p64_3 False fu K0 x0 j1) (fun k6 h L hL_3=>?_) (fun k6 h L hL_3=>?_) ?_
 conv=>cbv
 exact hL_3 _ _ ⟨(z0a .eql x0 0),⟨(by (conv=>lhs;cbv)<;>(subst hO;rfl)),(by (conv=>lhs;cbv)<;>(subst hO;rfl))⟩,h⟩
 conv=>cbv
 refine z0e hO tiA h (by subst hO;rfl) [3,4] [] [] (fun tm m=>∃ (j4:Bool),((tm=frame 0 14 [(3,.c (.v (.int .i64 x0))),(4,.c (.v (.bool j4)))]∧m=⟨[],1⟩))∧p64_4 False fu K0 x0 j4) (fun k7 h L hL_4=>?_) (fun k7 h L hL_4=>?_) ?_
 conv=>cbv
 exact hL_4 _ _ ⟨(z0a .eql x0 1),⟨(by (conv=>lhs;cbv)<;>(subst hO;rfl)),(by (conv=>lhs;cbv)<;>(subst hO;rfl))⟩,h⟩
 conv=>cbv
 exact hL_4 _ _ ⟨(z0a .eql x0 2),⟨(by (conv=>lhs;cbv)<;>(subst hO;rfl)),(by (conv=>lhs;cbv)<;>(subst hO;rfl))⟩,h⟩
 rintro tm m ⟨j4,hs,h⟩
 unfold p64_4 at h
 obtain⟨rfl,rfl⟩:=hs
 conv=>cbv
 exact hL_3 _ _ ⟨j4,⟨(by (conv=>lhs;cbv)<;>(subst hO;rfl)),(by (conv=>lhs;cbv)<;>(subst hO;rfl))⟩,h⟩
 rintro tm m ⟨j1,hs,h⟩
 unfold p64_3 at h
 obtain⟨rfl,rfl⟩:=hs
 conv=>cbv
 refine br_h hO h (by subst hO;rfl) (fun k1 h=>?_) (fun k1 h=>?_)
 conv=>cbv
 rw [b]
 exact⟨0,_,⟨(by subst hO;rfl),(by subst hO;rfl)⟩,h⟩
 conv=>cbv
 refine z0e hO tiA h (by subst hO;rfl) [3,8] [] [] (fun tm m=>∃ (j2:Bool),((tm=frame 0 14 [(3,.c (.v (.int .i64 x0))),(8,.c (.v (.bool j2)))]∧m=⟨[],1⟩))∧p64_1 False fu K0 x0 j2) (fun k4 h L hL_1=>?_) (fun k4 h L hL_1=>?_) ?_
 conv=>cbv
 exact hL_1 _ _ ⟨(z0a .eql x0 3),⟨(by (conv=>lhs;cbv)<;>(subst hO;rfl)),(by (conv=>lhs;cbv)<;>(subst hO;rfl))⟩,h⟩
 conv=>cbv
 refine z0e hO tiA h (by subst hO;rfl) [3,8] [] [] (fun tm m=>∃ (j3:Bool),((tm=frame 0 14 [(3,.c (.v (.int .i64 x0))),(8,.c (.v (.bool j3)))]∧m=⟨[],1⟩))∧p64_2 False fu K0 x0 j3) (fun k5 h L hL_2=>?_) (fun k5 h L hL_2=>?_) ?_
 conv=>cbv
 exact hL_2 _ _ ⟨(z0a .eql x0 4),⟨(by (conv=>lhs;cbv)<;>(subst hO;rfl)),(by (conv=>lhs;cbv)<;>(subst hO;rfl))⟩,h⟩
 conv=>cbv
 exact hL_2 _ _ ⟨(z0a .eql x0 5),⟨(by (conv=>lhs;cbv)<;>(subst hO;rfl)),(by (conv=>lhs;cbv)<;>(subst hO;rfl))⟩,h⟩
 rintro tm m ⟨j3,hs,h⟩
 unfold p64_2 at h
 obtain⟨rfl,rfl⟩:=hs
 conv=>cbv
 exact hL_1 _ _ ⟨j3,⟨(by (conv=>lhs;cbv)<;>(subst hO;rfl)),(by (conv=>lhs;cbv)<;>(subst hO;rfl))⟩,h⟩
 rintro tm m ⟨j2,hs,h⟩
 unfold p64_1 at h
 obtain⟨rfl,rfl⟩:=hs
 conv=>cbv
 refine br_h hO h (by subst hO;rfl) (fun k2 h=>?_) (fun k2 h=>?_)
 conv=>cbv
 rw [b]
 exact⟨2,_,⟨(by subst hO;rfl),(by subst hO;rfl)⟩,h⟩
 conv=>cbv
 refine br_h hO h (by subst hO;rfl) (fun k3 h=>?_) (fun k3 h=>?_)
 conv=>cbv
 rw [b]
 exact⟨3,_,⟨(by subst hO;rfl),(by subst hO;rfl)⟩,h⟩
 conv=>cbv
 refine z0b hO ?_
 conv=>cbv
 refine z0b hO ?_
 conv=>cbv
 refine z0b hO ?_
 conv=>cbv
 rw [b]
 exact⟨(-1),_,⟨(by subst hO;rfl),(by subst hO;rfl)⟩,h⟩
end Go.Proofs.Ytioiigabeoaneaa
