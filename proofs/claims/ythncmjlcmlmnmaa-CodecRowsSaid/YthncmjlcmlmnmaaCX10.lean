/- A part of the proof. Conditions: none. -/
import Derived.Test.YthncmjlcmlmnmaaCX4
import Derived.Test.YthncmjlcmlmnmaaCX6
import Derived.Test.YthncmjlcmlmnmaaCX9
import Derived.Test.YthncmjlcmlmnmaaCX8
namespace Go.Proofs.Ythncmjlcmlmnmaa
open Go V
set_option maxRecDepth 100000
set_option maxHeartbeats 4000000
def D_p143 (fu:Nat):Prop:=∀ {K0:Int→Int→ByteArray→EL→EL→ByteArray→Int→Int→Int→Int→Int→Prop} (L:EL→Nat) (_:L=List.length) {x0:ByteArray} {x1 x2 x3 x4 x5 x6:Int} (_:p143 False fu K0 x0 x1 x2 x3 x4 x5 x6),Den Try.prog G0 143 [.ptr [.c (.v (.string x0)),.c (.v (.int .i64 x1)),.c (.v (.int .i64 x2)),.c (.v (.int .i64 x3)),.c (.v (.int .i64 x4)),.c (.v (.int .i64 x5))],.c (.v (.int .i64 x6))] (fun r bs=>(∃ (y0 y1:Int) (y2:ByteArray) (y3 y4:EL) (y5:ByteArray) (y6 y7 y8 y9 y10:Int) (o1:OV),(r=.agg [.c (.v (.int .i64 y0)),.c (.v (.int .i64 y1)),.c (.v (.string y2)),.c (.sl 3 y3 none),.c (.sl 5 y4 none)]∧bs=[.ptr [.c (.v (.string y5)),.c (.v (.int .i64 y6)),.c (.v (.int .i64 y7)),.c (.v (.int .i64 y8)),.c (.v (.int .i64 y9)),.c (.v (.int .i64 y10))],o1])∧K0 y0 y1 y2 y3 y4 y5 y6 y7 y8 y9 y10))
theorem b_p143 (fu:Nat)(ih_p143:D_p143 fu){K0:Int→Int→ByteArray→EL→EL→ByteArray→Int→Int→Int→Int→Int→Prop}(L:EL→Nat)(hN:L=List.length){x0:ByteArray}{x1 x2 x3 x4 x5 x6:Int}(h:p143_b False fu (p143 False fu) K0 x0 x1 x2 x3 x4 x5 x6):Den Try.prog G0 143 [.ptr [.c (.v (.string x0)),.c (.v (.int .i64 x1)),.c (.v (.int .i64 x2)),.c (.v (.int .i64 x3)),.c (.v (.int .i64 x4)),.c (.v (.int .i64 x5))],.c (.v (.int .i64 x6))] (fun r bs=>(∃ (y0 y1:Int) (y2:ByteArray) (y3 y4:EL) (y5:ByteArray) (y6 y7 y8 y9 y10:Int) (o1:OV),(r=.agg [.c (.v (.int .i64 y0)),.c (.v (.int .i64 y1)),.c (.v (.string y2)),.c (.sl 3 y3 none),.c (.sl 5 y4 none)]∧bs=[.ptr [.c (.v (.string y5)),.c (.v (.int .i64 y6)),.c (.v (.int .i64 y7)),.c (.v (.int .i64 y8)),.c (.v (.int .i64 y9)),.c (.v (.int .i64 y10))],o1])∧K0 y0 y1 y2 y3 y4 y5 y6 y7 y8 y9 y10)):=by
 obtain⟨O,hO⟩:∃ O,O=std 1 T G0 (Den Try.prog G0):=⟨_,rfl⟩
 have hLO:L=O.len:=by rw [hN,hO];rfl
 subst hLO
 refine den_h hO tiA mixed tabOk (fn:=Try.f143) (sh:=true) (by kernel_rfl) rfl rfl rfl rfl ?_
 intro Q b
 unfold p143_b at h
 conv=>cbv
 refine z0c hO [.ref 6] (d_p145 fu O.len hN h) ?_
 intro e Q a b
 conv=>cbv
 refine⟨by subst a hO;rfl,?_⟩
 intro r bs d
 rw [b] at d
 clear a b h
 obtain⟨y1,y2,y3,y4,y5,y6,y7,⟨rfl,rfl⟩,h⟩:=d
 conv=>cbv
 refine z0v hO tiA [[],[]] [(0,true,false),(1,true,false),(2,true,false),(3,true,false),(4,true,false),(5,true,false),(6,true,false),(7,true,false),(8,true,false),(9,true,true),(10,true,true),(11,true,true),(12,true,true),(13,true,true),(14,true,false),(15,true,false),(16,true,true),(17,true,true),(18,true,false),(19,true,false),(20,true,true),(21,true,true),(22,true,false),(23,true,false),(24,true,true),(25,true,true),(26,true,false),(27,true,false),(28,true,true),(29,true,true),(30,true,false),(31,true,false),(32,true,true),(33,true,true),(34,true,false),(35,false,false),(36,true,false),(37,true,true),(38,true,true)] (by kernel_rfl) [0,1,4,5,52] [0,5000] [] (fun tm m=>∃ (j8:Bool),((tm=frame 0 170 [(0,.p 0 0 0),(1,.c (.v (.int .i64 x6))),(4,.p 5000 1 0),(5,.c (.v (.int .u8 y1))),(52,.c (.v (.bool j8)))]∧m=⟨[(0,.blk 0 [.c (.v (.string y2)),.c (.v (.int .i64 y3)),.c (.v (.int .i64 y4)),.c (.v (.int .i64 y5)),.c (.v (.int .i64 y6)),.c (.v (.int .i64 y7))]),(5000,.blk 1 [.c (.v (.int .i64 0)),.c (.v (.int .i64 0)),.c (.v (.string ⟨#[]⟩)),.c (.sl 3 [] (some [])),.c (.sl 5 [] (some []))])],2⟩))∧p143_5 False fu (p143 False fu) K0 x6 y1 y2 y3 y4 y5 y6 y7 j8) (fun L hL_5=>?_) ?_
 conv=>cbv
 refine br_h hO h (by subst hO;rfl) (fun k11 h=>?_) (fun k11 h=>?_)
 conv=>cbv
 refine br_t hO k11 ?_
 conv=>cbv
 refine br_t hO k11 ?_
 conv=>cbv
 refine br_t hO k11 ?_
 conv=>cbv
 refine br_t hO k11 ?_
 conv=>cbv
 refine br_t hO k11 ?_
 conv=>cbv
 refine br_t hO k11 ?_
 conv=>cbv
 refine br_t hO k11 ?_
 conv=>cbv
 refine br_t hO k11 ?_
 conv=>cbv
 refine br_t hO k11 ?_
 conv=>cbv
 refine br_t hO k11 ?_
 conv=>cbv
 refine br_t hO k11 ?_
 conv=>cbv
 refine br_t hO k11 ?_
 conv=>cbv
 refine br_t hO k11 ?_
 conv=>cbv
 refine br_t hO k11 ?_
 conv=>cbv
 exact hL_5 _ _ ⟨true,⟨(by (conv=>lhs;cbv)<;>(subst hO;rfl)),(by (conv=>lhs;cbv)<;>(subst hO;rfl))⟩,h⟩
 conv=>cbv
 refine br_f hO k11 ?_
 conv=>cbv
 refine br_f hO k11 ?_
 conv=>cbv
 refine br_h hO h (by subst hO;rfl) (fun k12 h=>?_) (fun k12 h=>?_)
 conv=>cbv
 refine br_t hO k12 ?_
 conv=>cbv
 refine br_f hO k11 ?_
 conv=>cbv
 refine br_t hO k12 ?_
 conv=>cbv
 refine br_f hO k11 ?_
 conv=>cbv
 refine br_h hO h (by subst hO;rfl) (fun k13 h=>?_) (fun k13 h=>?_)
 conv=>cbv
 refine br_t hO k13 ?_
 conv=>cbv
 refine br_f hO k11 ?_
 conv=>cbv
 refine br_t hO k13 ?_
 conv=>cbv
 refine br_f hO k11 ?_
 conv=>cbv
 refine br_h hO h (by subst hO;rfl) (fun k14 h=>?_) (fun k14 h=>?_)
 conv=>cbv
 refine br_t hO k14 ?_
 conv=>cbv
 refine br_f hO k11 ?_
 conv=>cbv
 refine br_t hO k14 ?_
 conv=>cbv
 refine br_f hO k11 ?_
 conv=>cbv
 refine br_h hO h (by subst hO;rfl) (fun k15 h=>?_) (fun k15 h=>?_)
 conv=>cbv
 refine br_t hO k15 ?_
 conv=>cbv
 refine br_f hO k11 ?_
 conv=>cbv
 refine br_t hO k15 ?_
 conv=>cbv
 refine br_f hO k11 ?_
 conv=>cbv
 refine br_h hO h (by subst hO;rfl) (fun k16 h=>?_) (fun k16 h=>?_)
 conv=>cbv
 refine br_t hO k16 ?_
 conv=>cbv
 refine br_f hO k11 ?_
 conv=>cbv
 refine br_t hO k16 ?_
 conv=>cbv
 refine br_f hO k11 ?_
 conv=>cbv
 refine br_h hO h (by subst hO;rfl) (fun k17 h=>?_) (fun k17 h=>?_)
 conv=>cbv
 refine br_t hO k17 ?_
 conv=>cbv
 refine z0c hO [.shut] (d_p146 fu O.len hN h) ?_
 intro e Q a b
 conv=>cbv
 refine⟨by subst a hO;rfl,?_⟩
 intro r bs d
 rw [b] at d
 clear a b h
 obtain⟨y176,_,⟨rfl,rfl⟩,h⟩:=d
 conv=>cbv
 refine agr hO rfl rfl ?_
 refine br_t hO k17 ?_
 conv=>cbv
 refine br_f hO k11 ?_
 conv=>cbv
 refine br_t hO k17 ?_
 conv=>cbv
 refine br_f hO k11 ?_
 conv=>cbv
 exact hL_5 _ _ ⟨(!y176),⟨(by (conv=>lhs;cbv)<;>(subst hO;rfl)),(by (conv=>lhs;cbv)<;>(subst hO;rfl))⟩,h⟩
 conv=>cbv
 refine br_f hO k17 ?_
 conv=>cbv
 refine br_f hO k17 ?_
 conv=>cbv
 refine br_f hO k11 ?_
 conv=>cbv
 refine br_f hO k17 ?_
 conv=>cbv
 refine br_f hO k11 ?_
 conv=>cbv
 exact hL_5 _ _ ⟨false,⟨(by (conv=>lhs;cbv)<;>(subst hO;rfl)),(by (conv=>lhs;cbv)<;>(subst hO;rfl))⟩,h⟩
 conv=>cbv
 refine br_f hO k16 ?_
 conv=>cbv
 refine br_f hO k11 ?_
 conv=>cbv
 refine br_f hO k16 ?_
 conv=>cbv
 refine br_f hO k11 ?_
 conv=>cbv
 refine br_f hO rfl ?_
 conv=>cbv
 refine br_f hO rfl ?_
 conv=>cbv
 refine br_f hO rfl ?_
 conv=>cbv
 refine br_f hO k11 ?_
 conv=>cbv
 refine br_f hO rfl ?_
 conv=>cbv
 refine br_f hO k11 ?_
 conv=>cbv
 exact hL_5 _ _ ⟨false,⟨(by (conv=>lhs;cbv)<;>(subst hO;rfl)),(by (conv=>lhs;cbv)<;>(subst hO;rfl))⟩,h⟩
 conv=>cbv
 refine br_f hO k15 ?_
 conv=>cbv
 refine br_f hO k11 ?_
 conv=>cbv
 refine br_f hO k15 ?_
 conv=>cbv
 refine br_f hO k11 ?_
 conv=>cbv
 refine br_f hO rfl ?_
 conv=>cbv
 refine br_f hO rfl ?_
 conv=>cbv
 refine br_f hO k11 ?_
 conv=>cbv
 refine br_f hO rfl ?_
 conv=>cbv
 refine br_f hO k11 ?_
 conv=>cbv
 refine br_f hO rfl ?_
 conv=>cbv
 refine br_f hO rfl ?_
 conv=>cbv
 refine br_f hO rfl ?_
 conv=>cbv
 refine br_f hO k11 ?_
 conv=>cbv
 refine br_f hO rfl ?_
 conv=>cbv
 refine br_f hO k11 ?_
 conv=>cbv
 exact hL_5 _ _ ⟨false,⟨(by (conv=>lhs;cbv)<;>(subst hO;rfl)),(by (conv=>lhs;cbv)<;>(subst hO;rfl))⟩,h⟩
 conv=>cbv
 refine br_f hO k14 ?_
 conv=>cbv
 refine br_f hO k11 ?_
 conv=>cbv
 refine br_f hO k14 ?_
 conv=>cbv
 refine br_f hO k11 ?_
 conv=>cbv
 refine br_f hO rfl ?_
 conv=>cbv
 refine br_f hO rfl ?_
 conv=>cbv
 refine br_f hO k11 ?_
 conv=>cbv
 refine br_f hO rfl ?_
 conv=>cbv
 refine br_f hO k11 ?_
 conv=>cbv
 refine br_f hO rfl ?_
 conv=>cbv
 refine br_f hO rfl ?_
 conv=>cbv
 refine br_f hO k11 ?_
 conv=>cbv
 refine br_f hO rfl ?_
 conv=>cbv
 refine br_f hO k11 ?_
 conv=>cbv
 refine br_f hO rfl ?_
 conv=>cbv
 refine br_f hO rfl ?_
 conv=>cbv
 refine br_f hO rfl ?_
 conv=>cbv
 refine br_f hO k11 ?_
 conv=>cbv
 refine br_f hO rfl ?_
 conv=>cbv
 refine br_f hO k11 ?_
 conv=>cbv
 exact hL_5 _ _ ⟨false,⟨(by (conv=>lhs;cbv)<;>(subst hO;rfl)),(by (conv=>lhs;cbv)<;>(subst hO;rfl))⟩,h⟩
 conv=>cbv
 refine br_f hO k13 ?_
 conv=>cbv
 refine br_f hO k11 ?_
 conv=>cbv
 refine br_f hO k13 ?_
 conv=>cbv
 refine br_f hO k11 ?_
 conv=>cbv
 refine br_f hO rfl ?_
 conv=>cbv
 refine br_f hO rfl ?_
 conv=>cbv
 refine br_f hO k11 ?_
 conv=>cbv
 refine br_f hO rfl ?_
 conv=>cbv
 refine br_f hO k11 ?_
 conv=>cbv
 refine br_f hO rfl ?_
 conv=>cbv
 refine br_f hO rfl ?_
 conv=>cbv
 refine br_f hO k11 ?_
 conv=>cbv
 refine br_f hO rfl ?_
 conv=>cbv
 refine br_f hO k11 ?_
 conv=>cbv
 refine br_f hO rfl ?_
 conv=>cbv
 refine br_f hO rfl ?_
 conv=>cbv
 refine br_f hO k11 ?_
 conv=>cbv
 refine br_f hO rfl ?_
 conv=>cbv
 refine br_f hO k11 ?_
 conv=>cbv
 refine br_f hO rfl ?_
 conv=>cbv
 refine br_f hO rfl ?_
 conv=>cbv
 refine br_f hO rfl ?_
 conv=>cbv
 refine br_f hO k11 ?_
 conv=>cbv
 refine br_f hO rfl ?_
 conv=>cbv
 refine br_f hO k11 ?_
 conv=>cbv
 exact hL_5 _ _ ⟨false,⟨(by (conv=>lhs;cbv)<;>(subst hO;rfl)),(by (conv=>lhs;cbv)<;>(subst hO;rfl))⟩,h⟩
 conv=>cbv
 refine br_f hO k12 ?_
 conv=>cbv
 refine br_f hO k11 ?_
 conv=>cbv
 refine br_f hO k12 ?_
 conv=>cbv
 refine br_f hO k11 ?_
 conv=>cbv
 refine br_f hO rfl ?_
 conv=>cbv
 refine br_f hO rfl ?_
 conv=>cbv
 refine br_f hO k11 ?_
 conv=>cbv
 refine br_f hO rfl ?_
 conv=>cbv
 refine br_f hO k11 ?_
 conv=>cbv
 refine br_f hO rfl ?_
 conv=>cbv
 refine br_f hO rfl ?_
 conv=>cbv
 refine br_f hO k11 ?_
 conv=>cbv
 refine br_f hO rfl ?_
 conv=>cbv
 refine br_f hO k11 ?_
 conv=>cbv
 refine br_f hO rfl ?_
 conv=>cbv
 refine br_f hO rfl ?_
 conv=>cbv
 refine br_f hO k11 ?_
 conv=>cbv
 refine br_f hO rfl ?_
 conv=>cbv
 refine br_f hO k11 ?_
 conv=>cbv
 refine br_f hO rfl ?_
 conv=>cbv
 refine br_f hO rfl ?_
 conv=>cbv
 refine br_f hO k11 ?_
 conv=>cbv
 refine br_f hO rfl ?_
 conv=>cbv
 refine br_f hO k11 ?_
 conv=>cbv
 refine br_f hO rfl ?_
 conv=>cbv
 refine br_f hO rfl ?_
 conv=>cbv
 refine br_f hO rfl ?_
 conv=>cbv
 refine br_f hO k11 ?_
 conv=>cbv
 refine br_f hO rfl ?_
 conv=>cbv
 refine br_f hO k11 ?_
 conv=>cbv
 exact hL_5 _ _ ⟨false,⟨(by (conv=>lhs;cbv)<;>(subst hO;rfl)),(by (conv=>lhs;cbv)<;>(subst hO;rfl))⟩,h⟩
 rintro tm m ⟨j8,hs,h⟩
 unfold p143_5 at h
 obtain⟨rfl,rfl⟩:=hs
 conv=>cbv
 refine br_h hO h (by subst hO;rfl) (fun k1 h=>?_) (fun k1 h=>?_)
 conv=>cbv
 refine z0c hO [.ref 6,.shut,.shut] (d_p147 fu O.len hN h) ?_
 intro e Q a b
 conv=>cbv
 refine⟨by subst a hO;rfl,?_⟩
 intro r bs d
 rw [b] at d
 clear a b h
 obtain⟨y9,y10,y11,y12,y13,y14,_,_,⟨rfl,rfl⟩,h⟩:=d
 conv=>cbv
 rw [b]
 exact⟨0,0,⟨#[]⟩,nilE,nilE,y9,y10,y11,y12,y13,y14,_,⟨(by subst hO;rfl),(by subst hO;rfl)⟩,h⟩
 conv=>cbv
 refine z0b hO ?_
 conv=>cbv
 refine z0f hO tiA h (by subst hO;rfl) [0,1,4,5] [0,5000] [] (fun tm m=>∃ (j15:ByteArray) (j16:Int) (j17:Int) (j18:Int) (j19:Int) (j20:Int),((tm=frame 0 170 [(0,.p 0 0 0),(1,.c (.v (.int .i64 x6))),(4,.p 5000 1 0),(5,.c (.v (.int .u8 y1)))]∧m=⟨[(0,.blk 0 [.c (.v (.string j15)),.c (.v (.int .i64 j16)),.c (.v (.int .i64 j17)),.c (.v (.int .i64 j18)),.c (.v (.int .i64 j19)),.c (.v (.int .i64 j20))]),(5000,.blk 1 [.c (.v (.int .i64 0)),.c (.v (.int .i64 0)),.c (.v (.string ⟨#[]⟩)),.c (.sl 3 [] (some [])),.c (.sl 5 [] (some []))])],2⟩))∧p143_4 False fu (p143 False fu) K0 x6 y1 j15 j16 j17 j18 j19 j20) (fun k10 h L hL_4=>?_) (fun k10 h L hL_4=>?_) ?_
 conv=>cbv
 refine z0c hO [.ref 6,.shut,.shut] (d_p147 fu O.len hN h) ?_
 intro e Q a b
 conv=>cbv
 refine⟨by subst a hO;rfl,?_⟩
 intro r bs d
 rw [b] at d
 clear a b h
 obtain⟨y170,y171,y172,y173,y174,y175,_,_,⟨rfl,rfl⟩,h⟩:=d
 conv=>cbv
 exact hL_4 _ _ ⟨y170,y171,y172,y173,y174,y175,⟨(by (conv=>lhs;cbv)<;>(subst hO;rfl)),(by (conv=>lhs;cbv)<;>(subst hO;rfl))⟩,h⟩
 conv=>cbv
 exact hL_4 _ _ ⟨y2,y3,y4,y5,y6,y7,⟨(by (conv=>lhs;cbv)<;>(subst hO;rfl)),(by (conv=>lhs;cbv)<;>(subst hO;rfl))⟩,h⟩
 rintro tm m ⟨j15,j16,j17,j18,j19,j20,hs,h⟩
 unfold p143_4 at h
 obtain⟨rfl,rfl⟩:=hs
 conv=>cbv
 refine z0f hO tiA h (by subst hO;rfl) [0,1,4,5] [0,5000] [] (fun tm m=>∃ (j21:ByteArray) (j22:Int) (j23:Int) (j24:Int) (j25:Int) (j26:Int),((tm=frame 0 170 [(0,.p 0 0 0),(1,.c (.v (.int .i64 x6))),(4,.p 5000 1 0),(5,.c (.v (.int .u8 y1)))]∧m=⟨[(0,.blk 0 [.c (.v (.string j21)),.c (.v (.int .i64 j22)),.c (.v (.int .i64 j23)),.c (.v (.int .i64 j24)),.c (.v (.int .i64 j25)),.c (.v (.int .i64 j26))]),(5000,.blk 1 [.c (.v (.int .i64 0)),.c (.v (.int .i64 0)),.c (.v (.string ⟨#[]⟩)),.c (.sl 3 [] (some [])),.c (.sl 5 [] (some []))])],2⟩))∧p143_3 False fu (p143 False fu) K0 x6 y1 j21 j22 j23 j24 j25 j26) (fun k9 h L hL_3=>?_) (fun k9 h L hL_3=>?_) ?_
 conv=>cbv
 refine z0c hO [.ref 6,.shut,.shut] (d_p147 fu O.len hN h) ?_
 intro e Q a b
 conv=>cbv
 refine⟨by subst a hO;rfl,?_⟩
 intro r bs d
 rw [b] at d
 clear a b h
 obtain⟨y164,y165,y166,y167,y168,y169,_,_,⟨rfl,rfl⟩,h⟩:=d
 conv=>cbv
 exact hL_3 _ _ ⟨y164,y165,y166,y167,y168,y169,⟨(by (conv=>lhs;cbv)<;>(subst hO;rfl)),(by (conv=>lhs;cbv)<;>(subst hO;rfl))⟩,h⟩
 conv=>cbv
 exact hL_3 _ _ ⟨j15,j16,j17,j18,j19,j20,⟨(by (conv=>lhs;cbv)<;>(subst hO;rfl)),(by (conv=>lhs;cbv)<;>(subst hO;rfl))⟩,h⟩
 rintro tm m ⟨j21,j22,j23,j24,j25,j26,hs,h⟩
 unfold p143_3 at h
 obtain⟨rfl,rfl⟩:=hs
 conv=>cbv
 refine br_h hO h (by subst hO;rfl) (fun k2 h=>?_) (fun k2 h=>?_)
 conv=>cbv
 rw [b]
 exact⟨0,0,⟨#[]⟩,nilE,nilE,j21,j22,j23,j24,j25,j26,_,⟨(by subst hO;rfl),(by subst hO;rfl)⟩,h⟩
 conv=>cbv
 refine z0b hO ?_
 conv=>cbv
 refine z0c hO [.shut] (d_p146 fu O.len hN h) ?_
 intro e Q a b
 conv=>cbv
 refine⟨by subst a hO;rfl,?_⟩
 intro r bs d
 rw [b] at d
 clear a b h
 obtain⟨y27,_,⟨rfl,rfl⟩,h⟩:=d
 conv=>cbv
 refine br_h hO h (by subst hO;rfl) (fun k3 h=>?_) (fun k3 h=>?_)
 conv=>cbv
 refine z0c hO [.ref 6] (d_p148 fu O.len hN h) ?_
 intro e Q a b
 conv=>cbv
 refine⟨by subst a hO;rfl,?_⟩
 intro r bs d
 rw [b] at d
 clear a b h
 obtain⟨y28,y29,y30,y31,y32,y33,y34,y35,y36,y37,y38,⟨rfl,rfl⟩,h⟩:=d
 conv=>cbv
 rw [b]
 exact⟨y28,y29,y30,y31,y32,y33,y34,y35,y36,y37,y38,_,⟨(by subst hO;rfl),(by subst hO;rfl)⟩,h⟩
 conv=>cbv
 refine z0b hO ?_
 conv=>cbv
 refine br_h hO h (by subst hO;rfl) (fun k4 h=>?_) (fun k4 h=>?_)
 conv=>cbv
 refine z0c hO [.ref 6] (d_p149 fu O.len hN h) ?_
 intro e Q a b
 conv=>cbv
 refine⟨by subst a hO;rfl,?_⟩
 intro r bs d
 rw [b] at d
 clear a b h
 obtain⟨y39,y40,y41,y42,y43,y44,y45,⟨rfl,rfl⟩,h⟩:=d
 conv=>cbv
 rw [b]
 exact⟨0,y39,⟨#[]⟩,nilE,nilE,y40,y41,y42,y43,y44,y45,_,⟨(by subst hO;rfl),(by subst hO;rfl)⟩,h⟩
 conv=>cbv
 refine br_h hO h (by subst hO;rfl) (fun k5 h=>?_) (fun k5 h=>?_)
 conv=>cbv
 refine z0c hO [.ref 6] (d_p150 fu O.len hN h) ?_
 intro e Q a b
 conv=>cbv
 refine⟨by subst a hO;rfl,?_⟩
 intro r bs d
 rw [b] at d
 clear a b h
 obtain⟨y46,y47,y48,y49,y50,y51,y52,y53,y54,⟨rfl,rfl⟩,h⟩:=d
 conv=>cbv
 refine z0t hO h (fun g=>(by subst hO;exact g)) (fun h=>?_)
 conv=>cbv
 rw [b]
 exact⟨1,0,⟨#[]⟩,List.take 1 [[(CV.v (.int .i64 y46)),(CV.v (.int .i64 y47)),(CV.sl 3 y48 none)]],nilE,y49,y50,y51,y52,y53,y54,_,⟨(by subst hO;rfl),(by subst hO;rfl)⟩,h⟩
 conv=>cbv
 refine br_h hO h (by subst hO;rfl) (fun k6 h=>?_) (fun k6 h=>?_)
 conv=>cbv
 refine z0c hO [.ref 6,.shut] (ih_p143 O.len hN h) ?_
 intro e Q a b
 conv=>cbv
 refine⟨by subst a hO;rfl,?_⟩
 intro r bs d
 rw [b] at d
 clear a b h
 obtain⟨y55,y56,y57,y58,y59,y60,y61,y62,y63,y64,y65,_,⟨rfl,rfl⟩,h⟩:=d
 conv=>cbv
 refine z0c hO [.ref 6,.shut] (ih_p143 O.len hN h) ?_
 intro e Q a b
 conv=>cbv
 refine⟨by subst a hO;rfl,?_⟩
 intro r bs d
 rw [b] at d
 clear a b h
 obtain⟨y66,y67,y68,y69,y70,y71,y72,y73,y74,y75,y76,_,⟨rfl,rfl⟩,h⟩:=d
 conv=>cbv
 refine z0c hO [.ref 6,.shut] (d_p151 fu O.len hN h) ?_
 intro e Q a b
 conv=>cbv
 refine⟨by subst a hO;rfl,?_⟩
 intro r bs d
 rw [b] at d
 clear a b h
 obtain⟨y77,y78,y79,y80,y81,y82,_,⟨rfl,rfl⟩,h⟩:=d
 conv=>cbv
 refine z0t hO h (fun g=>(by subst hO;exact g)) (fun h=>?_)
 conv=>cbv
 rw [b]
 exact⟨3,0,⟨#[]⟩,nilE,List.take 2 [[(CV.v (.int .i64 y55)),(CV.v (.int .i64 y56)),(CV.v (.string y57)),(CV.sl 3 y58 none),(CV.sl 5 y59 none)],[(CV.v (.int .i64 y66)),(CV.v (.int .i64 y67)),(CV.v (.string y68)),(CV.sl 3 y69 none),(CV.sl 5 y70 none)]],y77,y78,y79,y80,y81,y82,_,⟨(by subst hO;rfl),(by subst hO;rfl)⟩,h⟩
 conv=>cbv
 refine br_h hO h (by subst hO;rfl) (fun k7 h=>?_) (fun k7 h=>?_)
 conv=>cbv
 refine z0c hO [.ref 6,.shut] (ih_p143 O.len hN h) ?_
 intro e Q a b
 conv=>cbv
 refine⟨by subst a hO;rfl,?_⟩
 intro r bs d
 rw [b] at d
 clear a b h
 obtain⟨y83,y84,y85,y86,y87,y88,y89,y90,y91,y92,y93,_,⟨rfl,rfl⟩,h⟩:=d
 conv=>cbv
 refine z0c hO [.ref 6,.shut] (d_p151 fu O.len hN h) ?_
 intro e Q a b
 conv=>cbv
 refine⟨by subst a hO;rfl,?_⟩
 intro r bs d
 rw [b] at d
 clear a b h
 obtain⟨y94,y95,y96,y97,y98,y99,_,⟨rfl,rfl⟩,h⟩:=d
 conv=>cbv
 refine z0c hO [.ref 6,.shut] (ih_p143 O.len hN h) ?_
 intro e Q a b
 conv=>cbv
 refine⟨by subst a hO;rfl,?_⟩
 intro r bs d
 rw [b] at d
 clear a b h
 obtain⟨y100,y101,y102,y103,y104,y105,y106,y107,y108,y109,y110,_,⟨rfl,rfl⟩,h⟩:=d
 conv=>cbv
 refine z0c hO [.ref 6,.shut] (d_p151 fu O.len hN h) ?_
 intro e Q a b
 conv=>cbv
 refine⟨by subst a hO;rfl,?_⟩
 intro r bs d
 rw [b] at d
 clear a b h
 obtain⟨y111,y112,y113,y114,y115,y116,_,⟨rfl,rfl⟩,h⟩:=d
 conv=>cbv
 refine z0h hO tiA [[0],[],[],[]] [(0,true,false),(1,true,false),(2,true,false),(3,true,false),(4,true,false),(5,false,false),(6,false,true),(7,true,true),(8,false,true)] (by kernel_rfl) ?_
 conv=>cbv
 refine z0c hO [.ref 6,.shut] (ih_p143 O.len hN h) ?_
 intro e Q a b
 conv=>cbv
 refine⟨by subst a hO;rfl,?_⟩
 intro r bs d
 rw [b] at d
 clear a b h
 obtain⟨y117,y118,y119,y120,y121,y122,y123,y124,y125,y126,y127,_,⟨rfl,rfl⟩,h⟩:=d
 conv=>cbv
 refine agr hO rfl rfl ?_
 refine z0b hO ?_
 conv=>cbv
 refine z0t hO h (fun g=>(by subst hO;exact g)) (fun h=>?_)
 conv=>cbv
 rw [b]
 exact⟨6,0,⟨#[]⟩,nilE,List.take 3 [[(CV.v (.int .i64 y83)),(CV.v (.int .i64 y84)),(CV.v (.string y85)),(CV.sl 3 y86 none),(CV.sl 5 y87 none)],[(CV.v (.int .i64 y100)),(CV.v (.int .i64 y101)),(CV.v (.string y102)),(CV.sl 3 y103 none),(CV.sl 5 y104 none)],[(CV.v (.int .i64 y117)),(CV.v (.int .i64 y118)),(CV.v (.string y119)),(CV.sl 3 y120 none),(CV.sl 5 y121 none)]],y122,y123,y124,y125,y126,y127,_,⟨(by subst hO;rfl),(by subst hO;rfl)⟩,h⟩
 conv=>cbv
 refine z0b hO ?_
 conv=>cbv
 refine z0b hO ?_
 conv=>cbv
 refine z0b hO ?_
 conv=>cbv
 refine z0b hO ?_
 conv=>cbv
 refine z0c hO [.ref 6,.shut] (ih_p143 O.len hN h) ?_
 intro e Q a b
 conv=>cbv
 refine⟨by subst a hO;rfl,?_⟩
 intro r bs d
 rw [b] at d
 clear a b h
 obtain⟨y128,y129,y130,y131,y132,y133,y134,y135,y136,y137,y138,_,⟨rfl,rfl⟩,h⟩:=d
 conv=>cbv
 refine z0c hO [.ref 6,.shut] (d_p151 fu O.len hN h) ?_
 intro e Q a b
 conv=>cbv
 refine⟨by subst a hO;rfl,?_⟩
 intro r bs d
 rw [b] at d
 clear a b h
 obtain⟨y139,y140,y141,y142,y143,y144,_,⟨rfl,rfl⟩,h⟩:=d
 conv=>cbv
 refine z5j hO tiA [[0]] (.op 0 true false (.op 1 true false (.op 2 true false (.op 3 true false (.alt 4 7 false false (.alt 5 7 true false (.op 6 true false (.op 7 false false (.op 8 false true .nil))) (.op 5 false true (.op 6 true false (.op 8 false true .nil)))) (.op 4 false false (.op 5 false true (.op 6 true false (.op 8 false true .nil))))))))) (by kernel_rfl) [4,5,11] [0,5000,12000,165000] [] (fun tm m=>∃ (j145:EL) (j146:ByteArray) (j147:Int) (j148:Int) (j149:Int) (j150:Int) (j151:Int),((tm=frame 0 170 [(4,.p 5000 1 0),(5,.c (.v (.int .u8 y1))),(11,.p 12000 1 0)]∧m=⟨[(0,.blk 0 [.c (.v (.string j146)),.c (.v (.int .i64 j147)),.c (.v (.int .i64 j148)),.c (.v (.int .i64 j149)),.c (.v (.int .i64 j150)),.c (.v (.int .i64 j151))]),(5000,.blk 1 [.c (.v (.int .i64 0)),.c (.v (.int .i64 0)),.c (.v (.string ⟨#[]⟩)),.c (.sl 3 [] (some [])),.c (.sl 5 [] (some []))]),(12000,.blk 1 [.c (.v (.int .i64 4)),.c (.v (.int .i64 0)),.c (.v (.string ⟨#[]⟩)),.c (.sl 3 [] (some [])),.t 165000 1 2]),(165000,.arr 1 5 j145 (some 2) false)],2⟩))∧p143_2 False fu (p143 False fu) K0 y1 j145 j146 j147 j148 j149 j150 j151) (fun L hL_2=>?_) ?_
 conv=>cbv
 refine⟨?_,?_⟩
 refine z0c hO [.ref 6,.shut] (ih_p143 O.len hN h) ?_
 intro e Q a b
 conv=>cbv
 refine⟨by subst a hO;rfl,?_⟩
 intro r bs d
 rw [b] at d
 clear a b h
 obtain⟨y153,y154,y155,y156,y157,y158,y159,y160,y161,y162,y163,_,⟨rfl,rfl⟩,h⟩:=d
 conv=>cbv
 refine agr hO rfl rfl ?_
 refine⟨?_,?_⟩
 refine agr hO rfl rfl ?_
 exact hL_2 _ _ ⟨[[(CV.v (.int .i64 y128)),(CV.v (.int .i64 y129)),(CV.v (.string y130)),(CV.sl 3 y131 none),(CV.sl 5 y132 none)],[(CV.v (.int .i64 y153)),(CV.v (.int .i64 y154)),(CV.v (.string y155)),(CV.sl 3 y156 none),(CV.sl 5 y157 none)]],y158,y159,y160,y161,y162,y163,⟨(by (conv=>lhs;cbv)<;>(subst hO;rfl)),(by (conv=>lhs;cbv)<;>(subst hO;rfl))⟩,h⟩
 refine agr hO rfl rfl ?_
 exact hL_2 _ _ ⟨[[(CV.v (.int .i64 y128)),(CV.v (.int .i64 y129)),(CV.v (.string y130)),(CV.sl 3 y131 none),(CV.sl 5 y132 none)],[(CV.v (.int .i64 y153)),(CV.v (.int .i64 y154)),(CV.v (.string y155)),(CV.sl 3 y156 none),(CV.sl 5 y157 none)]],y158,y159,y160,y161,y162,y163,⟨(by (conv=>lhs;cbv)<;>(subst hO;rfl)),(by (conv=>lhs;cbv)<;>(subst hO;rfl))⟩,h⟩
 refine agr hO rfl rfl ?_
 refine z0c hO [.ref 6,.shut] (ih_p143 O.len hN h) ?_
 intro e Q a b
 conv=>cbv
 refine⟨by subst a hO;rfl,?_⟩
 intro r bs d
 rw [b] at d
 clear a b h
 obtain⟨y153,y154,y155,y156,y157,y158,y159,y160,y161,y162,y163,_,⟨rfl,rfl⟩,h⟩:=d
 conv=>cbv
 refine agr hO rfl rfl ?_
 exact hL_2 _ _ ⟨[[(CV.v (.int .i64 y128)),(CV.v (.int .i64 y129)),(CV.v (.string y130)),(CV.sl 3 y131 none),(CV.sl 5 y132 none)],[(CV.v (.int .i64 y153)),(CV.v (.int .i64 y154)),(CV.v (.string y155)),(CV.sl 3 y156 none),(CV.sl 5 y157 none)]],y158,y159,y160,y161,y162,y163,⟨(by (conv=>lhs;cbv)<;>(subst hO;rfl)),(by (conv=>lhs;cbv)<;>(subst hO;rfl))⟩,h⟩
 rintro tm m ⟨j145,j146,j147,j148,j149,j150,j151,hs,h⟩
 unfold p143_2 at h
 obtain⟨rfl,rfl⟩:=hs
 conv=>cbv
 refine z0f hO tiA h (by subst hO;rfl) [4,11] [0,5000,12000,165000] [] (fun tm m=>∃ (j152:Int),((tm=frame 0 170 [(4,.p 5000 1 0),(11,.p 12000 1 0)]∧m=⟨[(0,.blk 0 [.c (.v (.string j146)),.c (.v (.int .i64 j147)),.c (.v (.int .i64 j148)),.c (.v (.int .i64 j149)),.c (.v (.int .i64 j150)),.c (.v (.int .i64 j151))]),(5000,.blk 1 [.c (.v (.int .i64 0)),.c (.v (.int .i64 0)),.c (.v (.string ⟨#[]⟩)),.c (.sl 3 [] (some [])),.c (.sl 5 [] (some []))]),(12000,.blk 1 [.c (.v (.int .i64 j152)),.c (.v (.int .i64 0)),.c (.v (.string ⟨#[]⟩)),.c (.sl 3 [] (some [])),.t 165000 1 2]),(165000,.arr 1 5 j145 (some 2) false)],2⟩))∧p143_1 False fu (p143 False fu) K0 j145 j146 j147 j148 j149 j150 j151 j152) (fun k8 h L hL_1=>?_) (fun k8 h L hL_1=>?_) ?_
 conv=>cbv
 exact hL_1 _ _ ⟨5,⟨(by (conv=>lhs;cbv)<;>(subst hO;rfl)),(by (conv=>lhs;cbv)<;>(subst hO;rfl))⟩,h⟩
 conv=>cbv
 exact hL_1 _ _ ⟨4,⟨(by (conv=>lhs;cbv)<;>(subst hO;rfl)),(by (conv=>lhs;cbv)<;>(subst hO;rfl))⟩,h⟩
 rintro tm m ⟨j152,hs,h⟩
 unfold p143_1 at h
 obtain⟨rfl,rfl⟩:=hs
 conv=>cbv
 refine z0t hO h (fun g=>(by subst hO;exact g)) (fun h=>?_)
 conv=>cbv
 rw [b]
 exact⟨j152,0,⟨#[]⟩,nilE,List.take 2 j145,j146,j147,j148,j149,j150,j151,_,⟨(by subst hO;rfl),(by subst hO;rfl)⟩,h⟩
theorem dd_p143 (fu:Nat):D_p143 fu:=by
 induction fu with
 | zero=>unfold D_p143;intros;rename_i h;rw [p143] at h;exact h.elim
 | succ n ih =>
  exact (by unfold D_p143;intro K0 L hN x0 x1 x2 x3 x4 x5 x6 h;exact b_p143 n ih L hN (by rw [p143] at h;exact h))
theorem d_p143 (fu:Nat):D_p143 fu:=dd_p143 fu
theorem d_p144 (fu:Nat){K0:ByteArray→Int→Int→Int→Int→Int→Prop}(L:EL→Nat)(hN:L=List.length){x0:ByteArray}{x1 x2 x3 x4 x5:Int}(h:p144 False fu K0 x0 x1 x2 x3 x4 x5):Den Try.prog G0 144 [.ptr [.c (.v (.string x0)),.c (.v (.int .i64 x1)),.c (.v (.int .i64 x2)),.c (.v (.int .i64 x3)),.c (.v (.int .i64 x4)),.c (.v (.int .i64 x5))]] (fun r bs=>(∃ (y0:ByteArray) (y1 y2 y3 y4 y5:Int),(r=.tup []∧bs=[.ptr [.c (.v (.string y0)),.c (.v (.int .i64 y1)),.c (.v (.int .i64 y2)),.c (.v (.int .i64 y3)),.c (.v (.int .i64 y4)),.c (.v (.int .i64 y5))]])∧K0 y0 y1 y2 y3 y4 y5)):=by
 obtain⟨O,hO⟩:∃ O,O=std 1 T G0 (Den Try.prog G0):=⟨_,rfl⟩
 have hLO:L=O.len:=by rw [hN,hO];rfl
 subst hLO
 refine den_h hO tiA mixed tabOk (fn:=Try.f144) (sh:=true) (by kernel_rfl) rfl rfl rfl rfl ?_
 intro Q b
 unfold p144 at h
 conv=>cbv
 refine z0c hO [.ref 6] (d_p152 fu O.len hN h) ?_
 intro e Q a b
 conv=>cbv
 refine⟨by subst a hO;rfl,?_⟩
 intro r bs d
 rw [b] at d
 clear a b h
 obtain⟨y1,y2,y3,y4,y5,y6,⟨rfl,rfl⟩,h⟩:=d
 conv=>cbv
 refine z0h hO tiA [[]] [(0,true,false),(1,true,false),(2,true,false),(3,true,false),(4,true,false),(5,true,false),(6,true,false),(7,true,false),(8,true,false),(9,true,true)] (by kernel_rfl) ?_
 conv=>cbv
 refine z0b hO ?_
 conv=>cbv
 refine z0f hO tiA h (by subst hO;rfl) [] [0] [] (fun tm m=>∃ (j7:ByteArray) (j8:Int) (j9:Int) (j10:Int) (j11:Int) (j12:Int),((tm=frame 0 20 []∧m=⟨[(0,.blk 0 [.c (.v (.string j7)),.c (.v (.int .i64 j8)),.c (.v (.int .i64 j9)),.c (.v (.int .i64 j10)),.c (.v (.int .i64 j11)),.c (.v (.int .i64 j12))])],2⟩))∧p144_1 False fu K0 j7 j8 j9 j10 j11 j12) (fun k1 h L hL_1=>?_) (fun k1 h L hL_1=>?_) ?_
 conv=>cbv
 refine z0c hO [.ref 6,.shut,.shut] (d_p147 fu O.len hN h) ?_
 intro e Q a b
 conv=>cbv
 refine⟨by subst a hO;rfl,?_⟩
 intro r bs d
 rw [b] at d
 clear a b h
 obtain⟨y13,y14,y15,y16,y17,y18,_,_,⟨rfl,rfl⟩,h⟩:=d
 conv=>cbv
 exact hL_1 _ _ ⟨y13,y14,y15,y16,y17,y18,⟨(by (conv=>lhs;cbv)<;>(subst hO;rfl)),(by (conv=>lhs;cbv)<;>(subst hO;rfl))⟩,h⟩
 conv=>cbv
 exact hL_1 _ _ ⟨y1,y2,y3,y4,y5,y6,⟨(by (conv=>lhs;cbv)<;>(subst hO;rfl)),(by (conv=>lhs;cbv)<;>(subst hO;rfl))⟩,h⟩
 rintro tm m ⟨j7,j8,j9,j10,j11,j12,hs,h⟩
 unfold p144_1 at h
 obtain⟨rfl,rfl⟩:=hs
 conv=>cbv
 rw [b]
 exact⟨j7,j8,j9,j10,j11,j12,⟨(by subst hO;rfl),(by subst hO;rfl)⟩,h⟩
theorem d_p134 (fu:Nat){K0:Int→Int→ByteArray→EL→EL→Int→Int→Prop}(L:EL→Nat)(hN:L=List.length){x0:ByteArray}(h:p134 False fu K0 x0):Den Try.prog G0 134 [.c (.v (.string x0))] (fun r bs=>(∃ (y0 y1:Int) (y2:ByteArray) (y3 y4:EL) (y5 y6:Int) (o0:OV),(r=.tup [.agg [.c (.v (.int .i64 y0)),.c (.v (.int .i64 y1)),.c (.v (.string y2)),.c (.sl 3 y3 none),.c (.sl 5 y4 none)],.c (.v (.int .i64 y5)),.c (.v (.int .i64 y6))]∧bs=[o0])∧K0 y0 y1 y2 y3 y4 y5 y6)):=by
 obtain⟨O,hO⟩:∃ O,O=std 0 T G0 (Den Try.prog G0):=⟨_,rfl⟩
 have hLO:L=O.len:=by rw [hN,hO];rfl
 subst hLO
 refine den_h hO tiA mixed tabOk (fn:=Try.f134) (sh:=true) (by kernel_rfl) rfl rfl rfl rfl ?_
 intro Q b
 unfold p134 at h
 conv=>cbv
 refine br_h hO h (by subst hO;rfl) (fun k1 h=>?_) (fun k1 h=>?_)
 conv=>cbv
 rw [b]
 exact⟨0,0,⟨#[]⟩,nilE,nilE,0,3,_,⟨(by subst hO;rfl),(by subst hO;rfl)⟩,h⟩
 conv=>cbv
 refine z0b hO ?_
 conv=>cbv
 refine z0c hO [.ref 6,.shut] (d_p143 fu O.len hN h) ?_
 intro e Q a b
 conv=>cbv
 refine⟨by subst a hO;rfl,?_⟩
 intro r bs d
 rw [b] at d
 clear a b h
 obtain⟨y1,y2,y3,y4,y5,y6,y7,y8,y9,y10,y11,_,⟨rfl,rfl⟩,h⟩:=d
 conv=>cbv
 refine z0c hO [.ref 6] (d_p144 fu O.len hN h) ?_
 intro e Q a b
 conv=>cbv
 refine⟨by subst a hO;rfl,?_⟩
 intro r bs d
 rw [b] at d
 clear a b h
 obtain⟨y12,y13,y14,y15,y16,y17,⟨rfl,rfl⟩,h⟩:=d
 conv=>cbv
 refine br_h hO h (by subst hO;rfl) (fun k2 h=>?_) (fun k2 h=>?_)
 conv=>cbv
 refine z0h hO tiA [[],[]] [(0,true,false),(1,true,false),(2,true,false),(3,true,false),(4,true,false),(5,true,false),(6,true,false),(7,true,false),(8,true,false),(9,false,false),(10,true,false),(11,true,true)] (by kernel_rfl) ?_
 conv=>cbv
 refine agr hO rfl rfl ?_
 refine z0b hO ?_
 conv=>cbv
 rw [b]
 exact⟨0,0,⟨#[]⟩,nilE,nilE,y15,y14,_,⟨(by subst hO;rfl),(by subst hO;rfl)⟩,h⟩
 conv=>cbv
 refine z0b hO ?_
 conv=>cbv
 rw [b]
 exact⟨y1,y2,y3,y4,y5,0,0,_,⟨(by subst hO;rfl),(by subst hO;rfl)⟩,h⟩
theorem d_p104 (fu:Nat){K0:Int→Int→ByteArray→EL→EL→Prop}(L:EL→Nat)(hN:L=List.length){x0:ByteArray}(h:p104 False fu K0 x0):Den Try.prog G0 104 [.c (.v (.string x0))] (fun r bs=>(∃ (y0 y1:Int) (y2:ByteArray) (y3 y4:EL) (o0:OV),(r=.agg [.c (.v (.int .i64 y0)),.c (.v (.int .i64 y1)),.c (.v (.string y2)),.c (.sl 3 y3 none),.c (.sl 5 y4 none)]∧bs=[o0])∧K0 y0 y1 y2 y3 y4)):=by
 obtain⟨O,hO⟩:∃ O,O=std 0 T G0 (Den Try.prog G0):=⟨_,rfl⟩
 have hLO:L=O.len:=by rw [hN,hO];rfl
 subst hLO
 refine den_h hO tiA mixed tabOk (fn:=Try.f104) (sh:=true) (by kernel_rfl) rfl rfl rfl rfl ?_
 intro Q b
 unfold p104 at h
 conv=>cbv
 refine z0c hO [.shut] (d_p134 fu O.len hN h) ?_
 intro e Q a b
 conv=>cbv
 refine⟨by subst a hO;rfl,?_⟩
 intro r bs d
 rw [b] at d
 clear a b h
 obtain⟨y1,y2,y3,y4,y5,y6,y7,_,⟨rfl,rfl⟩,h⟩:=d
 conv=>cbv
 rw [b]
 exact⟨y1,y2,y3,y4,y5,_,⟨(by subst hO;rfl),(by subst hO;rfl)⟩,h⟩
theorem d_p57 (fu:Nat){K0:Int→Int→ByteArray→EL→EL→Prop}(L:EL→Nat)(hN:L=List.length){x0:ByteArray}(h:p57 False fu K0 x0):Den Try.prog G0 57 [.c (.v (.string x0))] (fun r bs=>(∃ (y0 y1:Int) (y2:ByteArray) (y3 y4:EL) (o0:OV),(r=.agg [.c (.v (.int .i64 y0)),.c (.v (.int .i64 y1)),.c (.v (.string y2)),.c (.sl 3 y3 none),.c (.sl 5 y4 none)]∧bs=[o0])∧K0 y0 y1 y2 y3 y4)):=by
 obtain⟨O,hO⟩:∃ O,O=std 0 T G0 (Den Try.prog G0):=⟨_,rfl⟩
 have hLO:L=O.len:=by rw [hN,hO];rfl
 subst hLO
 refine den_h hO tiA mixed tabOk (fn:=Try.f57) (sh:=true) (by kernel_rfl) rfl rfl rfl rfl ?_
 intro Q b
 unfold p57 at h
 conv=>cbv
 refine z0c hO [.shut] (d_p104 fu O.len hN h) ?_
 intro e Q a b
 conv=>cbv
 refine⟨by subst a hO;rfl,?_⟩
 intro r bs d
 rw [b] at d
 clear a b h
 obtain⟨y1,y2,y3,y4,y5,_,⟨rfl,rfl⟩,h⟩:=d
 conv=>cbv
 rw [b]
 exact⟨y1,y2,y3,y4,y5,_,⟨(by subst hO;rfl),(by subst hO;rfl)⟩,h⟩
theorem d_p103 (fu:Nat){K0:Int→Int→ByteArray→EL→EL→Prop}(L:EL→Nat)(hN:L=List.length){x0 x1:Int}{x2:ByteArray}{x3 x4:EL}{x5 x6:Int}{x7:ByteArray}{x8 x9:EL}(h:p103 False fu K0 x0 x1 x2 x3 x4 x5 x6 x7 x8 x9):Den Try.prog G0 103 [.agg [.c (.v (.int .i64 x0)),.c (.v (.int .i64 x1)),.c (.v (.string x2)),.c (.sl 3 x3 none),.c (.sl 5 x4 none)],.agg [.c (.v (.int .i64 x5)),.c (.v (.int .i64 x6)),.c (.v (.string x7)),.c (.sl 3 x8 none),.c (.sl 5 x9 none)]] (fun r bs=>(∃ (y0 y1:Int) (y2:ByteArray) (y3 y4:EL) (o0 o1:OV),(r=.agg [.c (.v (.int .i64 y0)),.c (.v (.int .i64 y1)),.c (.v (.string y2)),.c (.sl 3 y3 none),.c (.sl 5 y4 none)]∧bs=[o0,o1])∧K0 y0 y1 y2 y3 y4)):=by
 obtain⟨O,hO⟩:∃ O,O=std 0 T G0 (Den Try.prog G0):=⟨_,rfl⟩
 have hLO:L=O.len:=by rw [hN,hO];rfl
 subst hLO
 refine den_h hO tiA mixed tabOk (fn:=Try.f103) (sh:=true) (by kernel_rfl) rfl rfl rfl rfl ?_
 intro Q b
 unfold p103 at h
 conv=>cbv
 refine z0h hO tiA [[],[],[],[]] [(0,true,false),(2,true,false),(1,false,false),(3,false,true),(4,true,true),(5,false,true)] (by kernel_rfl) ?_
 conv=>cbv
 refine z0c hO [.shut] (d_p100 fu O.len hN h) ?_
 intro e Q a b
 conv=>cbv
 refine⟨by subst a hO;rfl,?_⟩
 intro r bs d
 rw [b] at d
 clear a b h
 obtain⟨y1,y2,y3,y4,y5,_,⟨rfl,rfl⟩,h⟩:=d
 conv=>cbv
 refine agr hO rfl rfl ?_
 refine z0b hO ?_
 conv=>cbv
 refine z0t hO h (fun g=>(by subst hO;exact g)) (fun h=>?_)
 conv=>cbv
 rw [b]
 exact⟨4,0,⟨#[]⟩,nilE,List.take 2 [[(CV.v (.int .i64 y1)),(CV.v (.int .i64 y2)),(CV.v (.string y3)),(CV.sl 3 y4 none),(CV.sl 5 y5 none)],[(CV.v (.int .i64 x5)),(CV.v (.int .i64 x6)),(CV.v (.string x7)),(CV.sl 3 x8 none),(CV.sl 5 x9 none)]],_,_,⟨(by subst hO;rfl),(by subst hO;rfl)⟩,h⟩
theorem d_p68 (fu:Nat){K0:Int→Int→ByteArray→EL→EL→Prop}(L:EL→Nat)(hN:L=List.length){x0 x1:Int}{x2:ByteArray}{x3 x4:EL}{x5 x6:Int}{x7:ByteArray}{x8 x9:EL}(h:p68 False fu K0 x0 x1 x2 x3 x4 x5 x6 x7 x8 x9):Den Try.prog G0 68 [.agg [.c (.v (.int .i64 x0)),.c (.v (.int .i64 x1)),.c (.v (.string x2)),.c (.sl 3 x3 none),.c (.sl 5 x4 none)],.agg [.c (.v (.int .i64 x5)),.c (.v (.int .i64 x6)),.c (.v (.string x7)),.c (.sl 3 x8 none),.c (.sl 5 x9 none)]] (fun r bs=>(∃ (y0 y1:Int) (y2:ByteArray) (y3 y4:EL) (o0 o1:OV),(r=.agg [.c (.v (.int .i64 y0)),.c (.v (.int .i64 y1)),.c (.v (.string y2)),.c (.sl 3 y3 none),.c (.sl 5 y4 none)]∧bs=[o0,o1])∧K0 y0 y1 y2 y3 y4)):=by
 obtain⟨O,hO⟩:∃ O,O=std 0 T G0 (Den Try.prog G0):=⟨_,rfl⟩
 have hLO:L=O.len:=by rw [hN,hO];rfl
 subst hLO
 refine den_h hO tiA mixed tabOk (fn:=Try.f68) (sh:=true) (by kernel_rfl) rfl rfl rfl rfl ?_
 intro Q b
 unfold p68 at h
 conv=>cbv
 refine z0h hO tiA [[],[],[],[]] [(0,true,false),(1,true,false),(2,false,false),(3,false,true),(4,true,true),(5,false,true)] (by kernel_rfl) ?_
 conv=>cbv
 refine z0c hO [.shut] (d_p100 fu O.len hN h) ?_
 intro e Q a b
 conv=>cbv
 refine⟨by subst a hO;rfl,?_⟩
 intro r bs d
 rw [b] at d
 clear a b h
 obtain⟨y1,y2,y3,y4,y5,_,⟨rfl,rfl⟩,h⟩:=d
 conv=>cbv
 refine agr hO rfl rfl ?_
 refine z0b hO ?_
 conv=>cbv
 refine z0t hO h (fun g=>(by subst hO;exact g)) (fun h=>?_)
 conv=>cbv
 rw [b]
 exact⟨3,0,⟨#[]⟩,nilE,List.take 2 [[(CV.v (.int .i64 x0)),(CV.v (.int .i64 x1)),(CV.v (.string x2)),(CV.sl 3 x3 none),(CV.sl 5 x4 none)],[(CV.v (.int .i64 y1)),(CV.v (.int .i64 y2)),(CV.v (.string y3)),(CV.sl 3 y4 none),(CV.sl 5 y5 none)]],_,_,⟨(by subst hO;rfl),(by subst hO;rfl)⟩,h⟩
theorem d_p133 (fu:Nat){K0:Int→Int→ByteArray→EL→EL→Prop}(L:EL→Nat)(hN:L=List.length){x0 x1:Int}{x2:ByteArray}{x3 x4 x5:EL}(h:p133 False fu K0 x0 x1 x2 x3 x4 x5):Den Try.prog G0 133 [.agg [.c (.v (.int .i64 x0)),.c (.v (.int .i64 x1)),.c (.v (.string x2)),.c (.sl 3 x3 none),.c (.sl 5 x4 none)],.c (.sl 5 x5 none)] (fun r bs=>(∃ (y0 y1:Int) (y2:ByteArray) (y3 y4:EL) (o0 o1:OV),(r=.agg [.c (.v (.int .i64 y0)),.c (.v (.int .i64 y1)),.c (.v (.string y2)),.c (.sl 3 y3 none),.c (.sl 5 y4 none)]∧bs=[o0,o1])∧K0 y0 y1 y2 y3 y4)):=by
 obtain⟨O,hO⟩:∃ O,O=std 0 T G0 (Den Try.prog G0):=⟨_,rfl⟩
 have hLO:L=O.len:=by rw [hN,hO];rfl
 subst hLO
 refine den_h hO tiA mixed tabOk (fn:=Try.f133) (sh:=true) (by kernel_rfl) rfl rfl rfl rfl ?_
 intro Q b
 unfold p133 at h
 conv=>cbv
 refine z0c hO [.shut] (d_p100 fu O.len hN h) ?_
 intro e Q a b
 conv=>cbv
 refine⟨by subst a hO;rfl,?_⟩
 intro r bs d
 rw [b] at d
 clear a b h
 obtain⟨y1,y2,y3,y4,y5,_,⟨rfl,rfl⟩,h⟩:=d
 conv=>cbv
 refine z0r hO tiA [1,4,5,6] [5000,6000] [] (fun (n:Nat) tm m=>∃ (z6:Int) (z7:Int) (z8:ByteArray) (z9:EL) (z10:EL) (z11:Int),((tm=frame 0 22 [(1,.c (.sl 5 x5 none)),(4,.p 5000 0 0),(5,.p 6000 0 0),(6,.c (.v (.int .i64 z11)))]∧m=⟨[(5000,.blk 0 [.c (.v (.int .i64 0)),.c (.v (.int .i64 0)),.c (.v (.string ⟨#[]⟩)),.c (.sl 3 [] (some [])),.c (.sl 5 [] (some []))]),(6000,.blk 0 [.c (.v (.int .i64 z6)),.c (.v (.int .i64 z7)),.c (.v (.string z8)),.c (.sl 3 z9 none),.c (.sl 5 z10 none)])],1⟩))∧p133_1L False fu K0 x5 n z6 z7 z8 z9 z10 z11) (fun n=>n) fu ⟨y1,y2,y3,y4,y5,0,⟨(by (conv=>lhs;cbv)<;>(subst hO;rfl)),(by (conv=>lhs;cbv)<;>(subst hO;rfl))⟩,h⟩ ?_
 rintro n1 tm m L ⟨z6,z7,z8,z9,z10,z11,hs,h⟩ hLn1
 (cases n1 with
 | zero=>rw [p133_1L] at h;exact h.elim
 | succ n1 =>
 rw [p133_1L] at h
 unfold p133_1 at h
 obtain⟨rfl,rfl⟩:=hs
 conv=>cbv
 refine br_h hO h (by subst hO;rfl) (fun k1 h=>?_) (fun k1 h=>?_)
 conv=>cbv
 refine z0b hO ?_
 conv=>cbv
 refine z0h hO tiA [[],[],[]] [(0,true,false),(1,true,false),(2,true,false),(3,true,false),(4,true,false),(5,false,true),(6,false,true)] (by kernel_rfl) ?_
 conv=>cbv
 refine and_h h (fun g=>(by subst hO;exact g)) (fun h=>?_)
 refine and_h h (fun g=>(by subst hO;exact g)) (fun h=>?_)
 obtain⟨c12,c13,c14,c15,c16,hr,h⟩:=z0e h
 refine z0m hO _ (by subst hO;exact hr) ?_
 clear hr
 conv=>cbv
 refine z0c hO [.shut,.shut] (d_p68 fu O.len hN h) ?_
 intro e Q a b
 conv=>cbv
 refine⟨by subst a hO;rfl,?_⟩
 intro r bs d
 rw [b] at d
 clear a b h
 obtain⟨y17,y18,y19,y20,y21,_,_,⟨rfl,rfl⟩,h⟩:=d
 conv=>cbv
 refine z0b hO ?_
 conv=>cbv
 exact hLn1 n1 _ _ (Nat.lt_succ_self n1) ⟨y17,y18,y19,y20,y21,z0d .add .i64 z11 1,⟨(by (conv=>lhs;cbv)<;>(subst hO;rfl)),(by (conv=>lhs;cbv)<;>(subst hO;rfl))⟩,h⟩
 conv=>cbv
 rw [b]
 exact⟨z6,z7,z8,z9,z10,_,_,⟨(by subst hO;rfl),(by subst hO;rfl)⟩,h⟩)
theorem d_p102 (fu:Nat){K0:Int→Int→ByteArray→EL→EL→Prop}(L:EL→Nat)(hN:L=List.length){x0:ByteArray}{x1:EL}(h:p102 False fu K0 x0 x1):Den Try.prog G0 102 [.c (.v (.string x0)),.c (.sl 5 x1 none)] (fun r bs=>(∃ (y0 y1:Int) (y2:ByteArray) (y3 y4:EL) (o0 o1:OV),(r=.agg [.c (.v (.int .i64 y0)),.c (.v (.int .i64 y1)),.c (.v (.string y2)),.c (.sl 3 y3 none),.c (.sl 5 y4 none)]∧bs=[o0,o1])∧K0 y0 y1 y2 y3 y4)):=by
 obtain⟨O,hO⟩:∃ O,O=std 0 T G0 (Den Try.prog G0):=⟨_,rfl⟩
 have hLO:L=O.len:=by rw [hN,hO];rfl
 subst hLO
 refine den_h hO tiA mixed tabOk (fn:=Try.f102) (sh:=true) (by kernel_rfl) rfl rfl rfl rfl ?_
 intro Q b
 unfold p102 at h
 conv=>cbv
 refine z0c hO [.shut] (d_p104 fu O.len hN h) ?_
 intro e Q a b
 conv=>cbv
 refine⟨by subst a hO;rfl,?_⟩
 intro r bs d
 rw [b] at d
 clear a b h
 obtain⟨y1,y2,y3,y4,y5,_,⟨rfl,rfl⟩,h⟩:=d
 conv=>cbv
 refine z0c hO [.shut,.shut] (d_p133 fu O.len hN h) ?_
 intro e Q a b
 conv=>cbv
 refine⟨by subst a hO;rfl,?_⟩
 intro r bs d
 rw [b] at d
 clear a b h
 obtain⟨y6,y7,y8,y9,y10,_,_,⟨rfl,rfl⟩,h⟩:=d
 conv=>cbv
 rw [b]
 exact⟨y6,y7,y8,y9,y10,_,_,⟨(by subst hO;rfl),(by subst hO;rfl)⟩,h⟩
def D_p54b (fu:Nat):Prop:=∀ {K0:Int→Int→ByteArray→EL→EL→EL→Int→Prop} (L:EL→Nat) (_:L=List.length) {x0:EL} {x1 x2:Int} (_:p54b False fu K0 x0 x1 x2),Den Try.prog G0 54 [.ptr [.c (.sl 1 x0 none),.c (.v (.int .i64 x1))],.c (.v (.int .i64 x2))] (fun r bs=>(∃ (y0 y1:Int) (y2:ByteArray) (y3 y4 y5:EL) (y6:Int) (o1:OV),(r=.agg [.c (.v (.int .i64 y0)),.c (.v (.int .i64 y1)),.c (.v (.string y2)),.c (.sl 3 y3 none),.c (.sl 5 y4 none)]∧bs=[.ptr [.c (.sl 1 y5 none),.c (.v (.int .i64 y6))],o1])∧K0 y0 y1 y2 y3 y4 y5 y6))
def D_p53 (fu:Nat):Prop:=∀ {K0:Int→Int→ByteArray→EL→EL→EL→Int→Prop} (L:EL→Nat) (_:L=List.length) {x0:EL} {x1 x2:Int} (_:p53 False fu K0 x0 x1 x2),Den Try.prog G0 53 [.ptr [.c (.sl 1 x0 none),.c (.v (.int .i64 x1))],.c (.v (.int .i64 x2))] (fun r bs=>(∃ (y0 y1:Int) (y2:ByteArray) (y3 y4 y5:EL) (y6:Int) (o1:OV),(r=.agg [.c (.v (.int .i64 y0)),.c (.v (.int .i64 y1)),.c (.v (.string y2)),.c (.sl 3 y3 none),.c (.sl 5 y4 none)]∧bs=[.ptr [.c (.sl 1 y5 none),.c (.v (.int .i64 y6))],o1])∧K0 y0 y1 y2 y3 y4 y5 y6))
theorem b_p54b (fu:Nat)(ih_p54b:D_p54b fu)(ih_p53:D_p53 fu){K0:Int→Int→ByteArray→EL→EL→EL→Int→Prop}(L:EL→Nat)(hN:L=List.length){x0:EL}{x1 x2:Int}(h:p54b_b False fu (p54b False fu) (p53 False fu) K0 x0 x1 x2):Den Try.prog G0 54 [.ptr [.c (.sl 1 x0 none),.c (.v (.int .i64 x1))],.c (.v (.int .i64 x2))] (fun r bs=>(∃ (y0 y1:Int) (y2:ByteArray) (y3 y4 y5:EL) (y6:Int) (o1:OV),(r=.agg [.c (.v (.int .i64 y0)),.c (.v (.int .i64 y1)),.c (.v (.string y2)),.c (.sl 3 y3 none),.c (.sl 5 y4 none)]∧bs=[.ptr [.c (.sl 1 y5 none),.c (.v (.int .i64 y6))],o1])∧K0 y0 y1 y2 y3 y4 y5 y6)):=by
 obtain⟨O,hO⟩:∃ O,O=std 1 T G0 (Den Try.prog G0):=⟨_,rfl⟩
 have hLO:L=O.len:=by rw [hN,hO];rfl
 subst hLO
 refine den_h hO tiA mixed tabOk (fn:=Try.f54) (sh:=true) (by kernel_rfl) rfl rfl rfl rfl ?_
 intro Q b
 unfold p54b_b at h
 conv=>cbv
 refine z0c hO [.ref 2,.shut] (d_p52 fu O.len hN h) ?_
 intro e Q a b
 conv=>cbv
 refine⟨by subst a hO;rfl,?_⟩
 intro r bs d
 rw [b] at d
 clear a b h
 obtain⟨y1,y2,y3,_,⟨rfl,rfl⟩,h⟩:=d
 conv=>cbv
 refine br_h hO h (by subst hO;rfl) (fun k1 h=>?_) (fun k1 h=>?_)
 conv=>cbv
 refine z0c hO [.shut] (d_p57 fu O.len hN h) ?_
 intro e Q a b
 conv=>cbv
 refine⟨by subst a hO;rfl,?_⟩
 intro r bs d
 rw [b] at d
 clear a b h
 obtain⟨y4,y5,y6,y7,y8,_,⟨rfl,rfl⟩,h⟩:=d
 conv=>cbv
 refine z0c hO [.ref 2,.shut] (ih_p53 O.len hN h) ?_
 intro e Q a b
 conv=>cbv
 refine⟨by subst a hO;rfl,?_⟩
 intro r bs d
 rw [b] at d
 clear a b h
 obtain⟨y9,y10,y11,y12,y13,y14,y15,_,⟨rfl,rfl⟩,h⟩:=d
 conv=>cbv
 refine z0c hO [.shut,.shut] (d_p103 fu O.len hN h) ?_
 intro e Q a b
 conv=>cbv
 refine⟨by subst a hO;rfl,?_⟩
 intro r bs d
 rw [b] at d
 clear a b h
 obtain⟨y16,y17,y18,y19,y20,_,_,⟨rfl,rfl⟩,h⟩:=d
 conv=>cbv
 rw [b]
 exact⟨y16,y17,y18,y19,y20,y14,y15,_,⟨(by subst hO;rfl),(by subst hO;rfl)⟩,h⟩
 conv=>cbv
 refine br_h hO h (by subst hO;rfl) (fun k2 h=>?_) (fun k2 h=>?_)
 conv=>cbv
 refine z0c hO [.shut] (d_p57 fu O.len hN h) ?_
 intro e Q a b
 conv=>cbv
 refine⟨by subst a hO;rfl,?_⟩
 intro r bs d
 rw [b] at d
 clear a b h
 obtain⟨y21,y22,y23,y24,y25,_,⟨rfl,rfl⟩,h⟩:=d
 conv=>cbv
 rw [b]
 exact⟨y21,y22,y23,y24,y25,y2,y3,_,⟨(by subst hO;rfl),(by subst hO;rfl)⟩,h⟩
 conv=>cbv
 refine br_h hO h (by subst hO;rfl) (fun k3 h=>?_) (fun k3 h=>?_)
 conv=>cbv
 refine z0c hO [.ref 2,.shut] (ih_p53 O.len hN h) ?_
 intro e Q a b
 conv=>cbv
 refine⟨by subst a hO;rfl,?_⟩
 intro r bs d
 rw [b] at d
 clear a b h
 obtain⟨y26,y27,y28,y29,y30,y31,y32,_,⟨rfl,rfl⟩,h⟩:=d
 conv=>cbv
 have hz:=z0q h
 have k4:=hz.1
 replace h:=hz.2
 clear hz
 refine z0c hO [.shut,.shut] (d_p102 fu O.len hN h) ?_
 intro e Q a b
 conv=>cbv
 refine z0s hO (by subst hO;exact k4) ?_
 conv=>cbv
 refine⟨by subst a hO;rfl,?_⟩
 intro r bs d
 rw [b] at d
 clear a b h
 obtain⟨y33,y34,y35,y36,y37,_,_,⟨rfl,rfl⟩,h⟩:=d
 conv=>cbv
 rw [b]
 exact⟨y33,y34,y35,y36,y37,y31,y32,_,⟨(by subst hO;rfl),(by subst hO;rfl)⟩,h⟩
 conv=>cbv
 refine z0b hO ?_
 conv=>cbv
 refine z0b hO ?_
 conv=>cbv
 refine z0b hO ?_
 conv=>cbv
 refine z0c hO [.shut] (d_p104 fu O.len hN h) ?_
 intro e Q a b
 conv=>cbv
 refine⟨by subst a hO;rfl,?_⟩
 intro r bs d
 rw [b] at d
 clear a b h
 obtain⟨y38,y39,y40,y41,y42,_,⟨rfl,rfl⟩,h⟩:=d
 conv=>cbv
 refine z0c hO [.shut] (d_p57 fu O.len hN h) ?_
 intro e Q a b
 conv=>cbv
 refine⟨by subst a hO;rfl,?_⟩
 intro r bs d
 rw [b] at d
 clear a b h
 obtain⟨y43,y44,y45,y46,y47,_,⟨rfl,rfl⟩,h⟩:=d
 conv=>cbv
 refine z0c hO [.ref 2,.shut] (ih_p53 O.len hN h) ?_
 intro e Q a b
 conv=>cbv
 refine⟨by subst a hO;rfl,?_⟩
 intro r bs d
 rw [b] at d
 clear a b h
 obtain⟨y48,y49,y50,y51,y52,y53,y54,_,⟨rfl,rfl⟩,h⟩:=d
 conv=>cbv
 refine z0c hO [.shut,.shut] (d_p103 fu O.len hN h) ?_
 intro e Q a b
 conv=>cbv
 refine⟨by subst a hO;rfl,?_⟩
 intro r bs d
 rw [b] at d
 clear a b h
 obtain⟨y55,y56,y57,y58,y59,_,_,⟨rfl,rfl⟩,h⟩:=d
 conv=>cbv
 have hz:=z0q h
 have k5:=hz.1
 replace h:=hz.2
 clear hz
 refine z0c hO [.shut,.shut] (d_p102 fu O.len hN h) ?_
 intro e Q a b
 conv=>cbv
 refine z0s hO (by subst hO;exact k5) ?_
 conv=>cbv
 refine⟨by subst a hO;rfl,?_⟩
 intro r bs d
 rw [b] at d
 clear a b h
 obtain⟨y60,y61,y62,y63,y64,_,_,⟨rfl,rfl⟩,h⟩:=d
 conv=>cbv
 rw [b]
 exact⟨y60,y61,y62,y63,y64,y53,y54,_,⟨(by subst hO;rfl),(by subst hO;rfl)⟩,h⟩
theorem b_p53 (fu:Nat)(ih_p54b:D_p54b fu)(ih_p53:D_p53 fu){K0:Int→Int→ByteArray→EL→EL→EL→Int→Prop}(L:EL→Nat)(hN:L=List.length){x0:EL}{x1 x2:Int}(h:p53_b False fu (p54b False fu) (p53 False fu) K0 x0 x1 x2):Den Try.prog G0 53 [.ptr [.c (.sl 1 x0 none),.c (.v (.int .i64 x1))],.c (.v (.int .i64 x2))] (fun r bs=>(∃ (y0 y1:Int) (y2:ByteArray) (y3 y4 y5:EL) (y6:Int) (o1:OV),(r=.agg [.c (.v (.int .i64 y0)),.c (.v (.int .i64 y1)),.c (.v (.string y2)),.c (.sl 3 y3 none),.c (.sl 5 y4 none)]∧bs=[.ptr [.c (.sl 1 y5 none),.c (.v (.int .i64 y6))],o1])∧K0 y0 y1 y2 y3 y4 y5 y6)):=by
 obtain⟨O,hO⟩:∃ O,O=std 1 T G0 (Den Try.prog G0):=⟨_,rfl⟩
 have hLO:L=O.len:=by rw [hN,hO];rfl
 subst hLO
 refine den_h hO tiA mixed tabOk (fn:=Try.f53) (sh:=true) (by kernel_rfl) rfl rfl rfl rfl ?_
 intro Q b
 unfold p53_b at h
 conv=>cbv
 refine z0c hO [.ref 2,.shut] (d_p52 fu O.len hN h) ?_
 intro e Q a b
 conv=>cbv
 refine⟨by subst a hO;rfl,?_⟩
 intro r bs d
 rw [b] at d
 clear a b h
 obtain⟨y1,y2,y3,_,⟨rfl,rfl⟩,h⟩:=d
 conv=>cbv
 refine z0f hO tiA h (by subst hO;rfl) [0,1,4,11,12] [0,5000] [] (fun tm m=>∃ (j4:Bool),((tm=frame 0 93 [(0,.p 0 0 0),(1,.c (.v (.int .i64 x2))),(4,.p 5000 1 0),(11,.c (.v (.int .i64 y1))),(12,.c (.v (.bool j4)))]∧m=⟨[(0,.blk 0 [.c (.sl 1 y2 none),.c (.v (.int .i64 y3))]),(5000,.blk 1 [.c (.v (.int .i64 0)),.c (.v (.int .i64 0)),.c (.v (.string ⟨#[]⟩)),.c (.sl 3 [] (some [])),.c (.sl 5 [] (some []))])],2⟩))∧p53_1 False fu (p54b False fu) (p53 False fu) K0 x2 y1 y2 y3 j4) (fun k13 h L hL_1=>?_) (fun k13 h L hL_1=>?_) ?_
 conv=>cbv
 exact hL_1 _ _ ⟨(z0a .eql y1 1),⟨(by (conv=>lhs;cbv)<;>(subst hO;rfl)),(by (conv=>lhs;cbv)<;>(subst hO;rfl))⟩,h⟩
 conv=>cbv
 exact hL_1 _ _ ⟨(z0a .eql y1 2),⟨(by (conv=>lhs;cbv)<;>(subst hO;rfl)),(by (conv=>lhs;cbv)<;>(subst hO;rfl))⟩,h⟩
 rintro tm m ⟨j4,hs,h⟩
 unfold p53_1 at h
 obtain⟨rfl,rfl⟩:=hs
 conv=>cbv
 refine br_h hO h (by subst hO;rfl) (fun k1 h=>?_) (fun k1 h=>?_)
 conv=>cbv
 refine z0c hO [.ref 2,.shut] (ih_p53 O.len hN h) ?_
 intro e Q a b
 conv=>cbv
 refine⟨by subst a hO;rfl,?_⟩
 intro r bs d
 rw [b] at d
 clear a b h
 obtain⟨y5,y6,y7,y8,y9,y10,y11,_,⟨rfl,rfl⟩,h⟩:=d
 conv=>cbv
 have hz:=z0q h
 have k2:=hz.1
 replace h:=hz.2
 clear hz
 refine z0c hO [.shut,.shut] (d_p102 fu O.len hN h) ?_
 intro e Q a b
 conv=>cbv
 refine z0s hO (by subst hO;exact k2) ?_
 conv=>cbv
 refine⟨by subst a hO;rfl,?_⟩
 intro r bs d
 rw [b] at d
 clear a b h
 obtain⟨y12,y13,y14,y15,y16,_,_,⟨rfl,rfl⟩,h⟩:=d
 conv=>cbv
 rw [b]
 exact⟨y12,y13,y14,y15,y16,y10,y11,_,⟨(by subst hO;rfl),(by subst hO;rfl)⟩,h⟩
 conv=>cbv
 refine br_h hO h (by subst hO;rfl) (fun k3 h=>?_) (fun k3 h=>?_)
 conv=>cbv
 refine z0c hO [.ref 2,.shut] (ih_p53 O.len hN h) ?_
 intro e Q a b
 conv=>cbv
 refine⟨by subst a hO;rfl,?_⟩
 intro r bs d
 rw [b] at d
 clear a b h
 obtain⟨y17,y18,y19,y20,y21,y22,y23,_,⟨rfl,rfl⟩,h⟩:=d
 conv=>cbv
 refine z0h hO tiA [[0],[],[],[],[]] [(0,true,false),(1,true,false),(2,true,false),(3,false,false),(4,false,true),(5,false,true),(6,false,true)] (by kernel_rfl) ?_
 conv=>cbv
 refine z0c hO [.ref 2,.shut] (ih_p53 O.len hN h) ?_
 intro e Q a b
 conv=>cbv
 refine⟨by subst a hO;rfl,?_⟩
 intro r bs d
 rw [b] at d
 clear a b h
 obtain⟨y24,y25,y26,y27,y28,y29,y30,_,⟨rfl,rfl⟩,h⟩:=d
 conv=>cbv
 refine agr hO rfl rfl ?_
 have hz:=z0q h
 have k4:=hz.1
 replace h:=hz.2
 clear hz
 refine z0c hO [.shut,.shut] (d_p102 fu O.len hN h) ?_
 intro e Q a b
 conv=>cbv
 refine z0s hO (by subst hO;exact k4) ?_
 conv=>cbv
 refine⟨by subst a hO;rfl,?_⟩
 intro r bs d
 rw [b] at d
 clear a b h
 obtain⟨y31,y32,y33,y34,y35,_,_,⟨rfl,rfl⟩,h⟩:=d
 conv=>cbv
 refine z0b hO ?_
 conv=>cbv
 rw [b]
 exact⟨y31,y32,y33,y34,y35,y29,y30,_,⟨(by subst hO;rfl),(by subst hO;rfl)⟩,h⟩
 conv=>cbv
 refine br_h hO h (by subst hO;rfl) (fun k5 h=>?_) (fun k5 h=>?_)
 conv=>cbv
 refine br_h hO h (by subst hO;rfl) (fun k6 h=>?_) (fun k6 h=>?_)
 conv=>cbv
 refine z0c hO [.ref 2,.shut] (d_p52 fu O.len hN h) ?_
 intro e Q a b
 conv=>cbv
 refine⟨by subst a hO;rfl,?_⟩
 intro r bs d
 rw [b] at d
 clear a b h
 obtain⟨y36,y37,y38,_,⟨rfl,rfl⟩,h⟩:=d
 conv=>cbv
 refine z0c hO [.shut] (d_p51 fu O.len hN h) ?_
 intro e Q a b
 conv=>cbv
 refine⟨by subst a hO;rfl,?_⟩
 intro r bs d
 rw [b] at d
 clear a b h
 obtain⟨y39,y40,y41,y42,y43,_,⟨rfl,rfl⟩,h⟩:=d
 conv=>cbv
 rw [b]
 exact⟨y39,y40,y41,y42,y43,y37,y38,_,⟨(by subst hO;rfl),(by subst hO;rfl)⟩,h⟩
 conv=>cbv
 refine z0b hO ?_
 conv=>cbv
 refine z0c hO [.shut] (d_p57 fu O.len hN h) ?_
 intro e Q a b
 conv=>cbv
 refine⟨by subst a hO;rfl,?_⟩
 intro r bs d
 rw [b] at d
 clear a b h
 obtain⟨y44,y45,y46,y47,y48,_,⟨rfl,rfl⟩,h⟩:=d
 conv=>cbv
 rw [b]
 exact⟨y44,y45,y46,y47,y48,y2,y3,_,⟨(by subst hO;rfl),(by subst hO;rfl)⟩,h⟩
 conv=>cbv
 refine br_h hO h (by subst hO;rfl) (fun k7 h=>?_) (fun k7 h=>?_)
 conv=>cbv
 refine z0c hO [.shut] (d_p57 fu O.len hN h) ?_
 intro e Q a b
 conv=>cbv
 refine⟨by subst a hO;rfl,?_⟩
 intro r bs d
 rw [b] at d
 clear a b h
 obtain⟨y49,y50,y51,y52,y53,_,⟨rfl,rfl⟩,h⟩:=d
 conv=>cbv
 refine z0c hO [.ref 2,.shut] (ih_p53 O.len hN h) ?_
 intro e Q a b
 conv=>cbv
 refine⟨by subst a hO;rfl,?_⟩
 intro r bs d
 rw [b] at d
 clear a b h
 obtain⟨y54,y55,y56,y57,y58,y59,y60,_,⟨rfl,rfl⟩,h⟩:=d
 conv=>cbv
 have hz:=z0q h
 have k8:=hz.1
 replace h:=hz.2
 clear hz
 refine z0c hO [.shut,.shut] (d_p102 fu O.len hN h) ?_
 intro e Q a b
 conv=>cbv
 refine z0s hO (by subst hO;exact k8) ?_
 conv=>cbv
 refine⟨by subst a hO;rfl,?_⟩
 intro r bs d
 rw [b] at d
 clear a b h
 obtain⟨y61,y62,y63,y64,y65,_,_,⟨rfl,rfl⟩,h⟩:=d
 conv=>cbv
 rw [b]
 exact⟨y61,y62,y63,y64,y65,y59,y60,_,⟨(by subst hO;rfl),(by subst hO;rfl)⟩,h⟩
 conv=>cbv
 refine br_h hO h (by subst hO;rfl) (fun k9 h=>?_) (fun k9 h=>?_)
 conv=>cbv
 refine z0c hO [.ref 2,.shut] (ih_p54b O.len hN h) ?_
 intro e Q a b
 conv=>cbv
 refine⟨by subst a hO;rfl,?_⟩
 intro r bs d
 rw [b] at d
 clear a b h
 obtain⟨y66,y67,y68,y69,y70,y71,y72,_,⟨rfl,rfl⟩,h⟩:=d
 conv=>cbv
 refine z0h hO tiA [[0],[],[],[]] [(0,true,false),(1,true,false),(2,true,false),(3,false,false),(4,false,true),(5,false,true)] (by kernel_rfl) ?_
 conv=>cbv
 refine z0c hO [.ref 2,.shut] (ih_p53 O.len hN h) ?_
 intro e Q a b
 conv=>cbv
 refine⟨by subst a hO;rfl,?_⟩
 intro r bs d
 rw [b] at d
 clear a b h
 obtain⟨y73,y74,y75,y76,y77,y78,y79,_,⟨rfl,rfl⟩,h⟩:=d
 conv=>cbv
 refine agr hO rfl rfl ?_
 refine z0c hO [.shut,.shut] (d_p68 fu O.len hN h) ?_
 intro e Q a b
 conv=>cbv
 refine⟨by subst a hO;rfl,?_⟩
 intro r bs d
 rw [b] at d
 clear a b h
 obtain⟨y80,y81,y82,y83,y84,_,_,⟨rfl,rfl⟩,h⟩:=d
 conv=>cbv
 refine z0b hO ?_
 conv=>cbv
 rw [b]
 exact⟨y80,y81,y82,y83,y84,y78,y79,_,⟨(by subst hO;rfl),(by subst hO;rfl)⟩,h⟩
 conv=>cbv
 refine br_h hO h (by subst hO;rfl) (fun k10 h=>?_) (fun k10 h=>?_)
 conv=>cbv
 refine z0c hO [.ref 2,.shut] (ih_p53 O.len hN h) ?_
 intro e Q a b
 conv=>cbv
 refine⟨by subst a hO;rfl,?_⟩
 intro r bs d
 rw [b] at d
 clear a b h
 obtain⟨y85,y86,y87,y88,y89,y90,y91,_,⟨rfl,rfl⟩,h⟩:=d
 conv=>cbv
 refine z0h hO tiA [[0],[0],[],[],[]] [(1,true,false),(2,true,false),(3,true,false),(4,true,false),(0,false,false),(5,false,false),(6,false,true),(7,true,true),(8,false,true)] (by kernel_rfl) ?_
 conv=>cbv
 refine z0c hO [.shut] (d_p57 fu O.len hN h) ?_
 intro e Q a b
 conv=>cbv
 refine⟨by subst a hO;rfl,?_⟩
 intro r bs d
 rw [b] at d
 clear a b h
 obtain⟨y92,y93,y94,y95,y96,_,⟨rfl,rfl⟩,h⟩:=d
 conv=>cbv
 refine agr hO rfl rfl ?_
 refine z0c hO [.ref 2,.shut] (ih_p53 O.len hN h) ?_
 intro e Q a b
 conv=>cbv
 refine⟨by subst a hO;rfl,?_⟩
 intro r bs d
 rw [b] at d
 clear a b h
 obtain⟨y97,y98,y99,y100,y101,y102,y103,_,⟨rfl,rfl⟩,h⟩:=d
 conv=>cbv
 refine agr hO rfl rfl ?_
 refine z0b hO ?_
 conv=>cbv
 refine z0t hO h (fun g=>(by subst hO;exact g)) (fun h=>?_)
 conv=>cbv
 rw [b]
 exact⟨6,0,⟨#[]⟩,nilE,List.take 3 [[(CV.v (.int .i64 y92)),(CV.v (.int .i64 y93)),(CV.v (.string y94)),(CV.sl 3 y95 none),(CV.sl 5 y96 none)],[(CV.v (.int .i64 y85)),(CV.v (.int .i64 y86)),(CV.v (.string y87)),(CV.sl 3 y88 none),(CV.sl 5 y89 none)],[(CV.v (.int .i64 y97)),(CV.v (.int .i64 y98)),(CV.v (.string y99)),(CV.sl 3 y100 none),(CV.sl 5 y101 none)]],y102,y103,_,⟨(by subst hO;rfl),(by subst hO;rfl)⟩,h⟩
 conv=>cbv
 refine br_h hO h (by subst hO;rfl) (fun k11 h=>?_) (fun k11 h=>?_)
 conv=>cbv
 refine z0c hO [.ref 2,.shut] (ih_p53 O.len hN h) ?_
 intro e Q a b
 conv=>cbv
 refine⟨by subst a hO;rfl,?_⟩
 intro r bs d
 rw [b] at d
 clear a b h
 obtain⟨y104,y105,y106,y107,y108,y109,y110,_,⟨rfl,rfl⟩,h⟩:=d
 conv=>cbv
 refine z0c hO [.shut] (d_p57 fu O.len hN h) ?_
 intro e Q a b
 conv=>cbv
 refine⟨by subst a hO;rfl,?_⟩
 intro r bs d
 rw [b] at d
 clear a b h
 obtain⟨y111,y112,y113,y114,y115,_,⟨rfl,rfl⟩,h⟩:=d
 conv=>cbv
 refine z0c hO [.shut] (d_p57 fu O.len hN h) ?_
 intro e Q a b
 conv=>cbv
 refine⟨by subst a hO;rfl,?_⟩
 intro r bs d
 rw [b] at d
 clear a b h
 obtain⟨y116,y117,y118,y119,y120,_,⟨rfl,rfl⟩,h⟩:=d
 conv=>cbv
 refine z0c hO [.ref 2,.shut] (ih_p53 O.len hN h) ?_
 intro e Q a b
 conv=>cbv
 refine⟨by subst a hO;rfl,?_⟩
 intro r bs d
 rw [b] at d
 clear a b h
 obtain⟨y121,y122,y123,y124,y125,y126,y127,_,⟨rfl,rfl⟩,h⟩:=d
 conv=>cbv
 refine z0c hO [.shut,.shut] (d_p103 fu O.len hN h) ?_
 intro e Q a b
 conv=>cbv
 refine⟨by subst a hO;rfl,?_⟩
 intro r bs d
 rw [b] at d
 clear a b h
 obtain⟨y128,y129,y130,y131,y132,_,_,⟨rfl,rfl⟩,h⟩:=d
 conv=>cbv
 refine z0c hO [.shut,.shut] (d_p103 fu O.len hN h) ?_
 intro e Q a b
 conv=>cbv
 refine⟨by subst a hO;rfl,?_⟩
 intro r bs d
 rw [b] at d
 clear a b h
 obtain⟨y133,y134,y135,y136,y137,_,_,⟨rfl,rfl⟩,h⟩:=d
 conv=>cbv
 refine z0h hO tiA [[0],[0],[],[],[],[]] [(1,true,false),(2,true,false),(3,true,false),(4,true,false),(0,false,false),(5,false,false),(6,false,true),(7,false,true),(8,false,true)] (by kernel_rfl) ?_
 conv=>cbv
 refine z0c hO [.shut] (d_p104 fu O.len hN h) ?_
 intro e Q a b
 conv=>cbv
 refine⟨by subst a hO;rfl,?_⟩
 intro r bs d
 rw [b] at d
 clear a b h
 obtain⟨y138,y139,y140,y141,y142,_,⟨rfl,rfl⟩,h⟩:=d
 conv=>cbv
 refine agr hO rfl rfl ?_
 refine z0c hO [.ref 2,.shut] (ih_p53 O.len hN h) ?_
 intro e Q a b
 conv=>cbv
 refine⟨by subst a hO;rfl,?_⟩
 intro r bs d
 rw [b] at d
 clear a b h
 obtain⟨y143,y144,y145,y146,y147,y148,y149,_,⟨rfl,rfl⟩,h⟩:=d
 conv=>cbv
 refine agr hO rfl rfl ?_
 have hz:=z0q h
 have k12:=hz.1
 replace h:=hz.2
 clear hz
 refine z0c hO [.shut,.shut] (d_p102 fu O.len hN h) ?_
 intro e Q a b
 conv=>cbv
 refine z0s hO (by subst hO;exact k12) ?_
 conv=>cbv
 refine⟨by subst a hO;rfl,?_⟩
 intro r bs d
 rw [b] at d
 clear a b h
 obtain⟨y150,y151,y152,y153,y154,_,_,⟨rfl,rfl⟩,h⟩:=d
 conv=>cbv
 refine z0b hO ?_
 conv=>cbv
 rw [b]
 exact⟨y150,y151,y152,y153,y154,y148,y149,_,⟨(by subst hO;rfl),(by subst hO;rfl)⟩,h⟩
 conv=>cbv
 refine z0b hO ?_
 conv=>cbv
 refine z0b hO ?_
 conv=>cbv
 refine z0b hO ?_
 conv=>cbv
 refine z0b hO ?_
 conv=>cbv
 refine z0b hO ?_
 conv=>cbv
 refine z0b hO ?_
 conv=>cbv
 refine z0b hO ?_
 conv=>cbv
 refine z0c hO [.shut] (d_p57 fu O.len hN h) ?_
 intro e Q a b
 conv=>cbv
 refine⟨by subst a hO;rfl,?_⟩
 intro r bs d
 rw [b] at d
 clear a b h
 obtain⟨y155,y156,y157,y158,y159,_,⟨rfl,rfl⟩,h⟩:=d
 conv=>cbv
 rw [b]
 exact⟨y155,y156,y157,y158,y159,y2,y3,_,⟨(by subst hO;rfl),(by subst hO;rfl)⟩,h⟩
theorem dd_p54b (fu:Nat):D_p54b fu∧D_p53 fu:=by
 induction fu with
 | zero=>exact⟨(by unfold D_p54b;intros;rename_i h;rw [p54b] at h;exact h.elim),(by unfold D_p53;intros;rename_i h;rw [p53] at h;exact h.elim)⟩
 | succ n ih =>
  obtain⟨i0,i1⟩:=ih
  exact⟨(by unfold D_p54b;intro K0 L hN x0 x1 x2 h;exact b_p54b n i0 i1 L hN (by rw [p54b] at h;exact h)),(by unfold D_p53;intro K0 L hN x0 x1 x2 h;exact b_p53 n i0 i1 L hN (by rw [p53] at h;exact h))⟩
theorem d_p54b (fu:Nat):D_p54b fu:=(dd_p54b fu).1
theorem d_p53 (fu:Nat):D_p53 fu:=(dd_p54b fu).2
theorem d_p105 (fu:Nat){K0:Bool→EL→Int→Prop}(L:EL→Nat)(hN:L=List.length){x0:EL}{x1:Int}(h:p105 False fu K0 x0 x1):Den Try.prog G0 105 [.ptr [.c (.sl 1 x0 none),.c (.v (.int .i64 x1))]] (fun r bs=>(∃ (y0:Bool) (y1:EL) (y2:Int),(r=.c (.v (.bool y0))∧bs=[.ptr [.c (.sl 1 y1 none),.c (.v (.int .i64 y2))]])∧K0 y0 y1 y2)):=by
 obtain⟨O,hO⟩:∃ O,O=std 1 T G0 (Den Try.prog G0):=⟨_,rfl⟩
 have hLO:L=O.len:=by rw [hN,hO];rfl
 subst hLO
 refine den_h hO tiA mixed tabOk (fn:=Try.f105) (sh:=true) (by kernel_rfl) rfl rfl rfl rfl ?_
 intro Q b
 unfold p105 at h
 conv=>cbv
 refine z0h hO tiA [[]] [(0,true,false),(1,true,false),(2,true,false),(3,true,false),(4,true,false),(5,true,false),(6,true,false),(7,true,false),(8,true,false),(9,true,true),(10,true,true)] (by kernel_rfl) ?_
 conv=>cbv
 refine z0b hO ?_
 conv=>cbv
 rw [b]
 exact⟨(z0a .geq x1 ((x0.length:Nat):Int)),x0,x1,⟨(by subst hO;rfl),(by subst hO;rfl)⟩,h⟩
def D_p55 (fu:Nat):Prop:=∀ {K0:Int→Int→ByteArray→EL→EL→EL→Int→Prop} (L:EL→Nat) (_:L=List.length) {x0:EL} {x1 x2:Int} (_:p55 False fu K0 x0 x1 x2),Den Try.prog G0 55 [.ptr [.c (.sl 1 x0 none),.c (.v (.int .i64 x1))],.c (.v (.int .i64 x2))] (fun r bs=>(∃ (y0 y1:Int) (y2:ByteArray) (y3 y4 y5:EL) (y6:Int) (o1:OV),(r=.agg [.c (.v (.int .i64 y0)),.c (.v (.int .i64 y1)),.c (.v (.string y2)),.c (.sl 3 y3 none),.c (.sl 5 y4 none)]∧bs=[.ptr [.c (.sl 1 y5 none),.c (.v (.int .i64 y6))],o1])∧K0 y0 y1 y2 y3 y4 y5 y6))
theorem b_p55 (fu:Nat)(ih_p55:D_p55 fu){K0:Int→Int→ByteArray→EL→EL→EL→Int→Prop}(L:EL→Nat)(hN:L=List.length){x0:EL}{x1 x2:Int}(h:p55_b False fu (p55 False fu) K0 x0 x1 x2):Den Try.prog G0 55 [.ptr [.c (.sl 1 x0 none),.c (.v (.int .i64 x1))],.c (.v (.int .i64 x2))] (fun r bs=>(∃ (y0 y1:Int) (y2:ByteArray) (y3 y4 y5:EL) (y6:Int) (o1:OV),(r=.agg [.c (.v (.int .i64 y0)),.c (.v (.int .i64 y1)),.c (.v (.string y2)),.c (.sl 3 y3 none),.c (.sl 5 y4 none)]∧bs=[.ptr [.c (.sl 1 y5 none),.c (.v (.int .i64 y6))],o1])∧K0 y0 y1 y2 y3 y4 y5 y6)):=by
 obtain⟨O,hO⟩:∃ O,O=std 1 T G0 (Den Try.prog G0):=⟨_,rfl⟩
 have hLO:L=O.len:=by rw [hN,hO];rfl
 subst hLO
 refine den_h hO tiA mixed tabOk (fn:=Try.f55) (sh:=true) (by kernel_rfl) rfl rfl rfl rfl ?_
 intro Q b
 unfold p55_b at h
 conv=>cbv
 refine z0c hO [.ref 2,.shut] (d_p52 fu O.len hN h) ?_
 intro e Q a b
 conv=>cbv
 refine⟨by subst a hO;rfl,?_⟩
 intro r bs d
 rw [b] at d
 clear a b h
 obtain⟨y1,y2,y3,_,⟨rfl,rfl⟩,h⟩:=d
 conv=>cbv
 refine br_h hO h (by subst hO;rfl) (fun k1 h=>?_) (fun k1 h=>?_)
 conv=>cbv
 refine z0c hO [.ref 2,.shut] (d_p53 fu O.len hN h) ?_
 intro e Q a b
 conv=>cbv
 refine⟨by subst a hO;rfl,?_⟩
 intro r bs d
 rw [b] at d
 clear a b h
 obtain⟨y4,y5,y6,y7,y8,y9,y10,_,⟨rfl,rfl⟩,h⟩:=d
 conv=>cbv
 refine z0h hO tiA [[0],[0],[],[],[],[]] [(1,true,false),(2,true,false),(3,true,false),(0,false,false),(4,false,false),(5,false,true),(6,false,true),(7,false,true)] (by kernel_rfl) ?_
 conv=>cbv
 refine z0c hO [.shut] (d_p57 fu O.len hN h) ?_
 intro e Q a b
 conv=>cbv
 refine⟨by subst a hO;rfl,?_⟩
 intro r bs d
 rw [b] at d
 clear a b h
 obtain⟨y11,y12,y13,y14,y15,_,⟨rfl,rfl⟩,h⟩:=d
 conv=>cbv
 refine agr hO rfl rfl ?_
 refine z0c hO [.ref 2,.shut] (d_p53 fu O.len hN h) ?_
 intro e Q a b
 conv=>cbv
 refine⟨by subst a hO;rfl,?_⟩
 intro r bs d
 rw [b] at d
 clear a b h
 obtain⟨y16,y17,y18,y19,y20,y21,y22,_,⟨rfl,rfl⟩,h⟩:=d
 conv=>cbv
 refine agr hO rfl rfl ?_
 have hz:=z0q h
 have k2:=hz.1
 replace h:=hz.2
 clear hz
 refine z0c hO [.shut,.shut] (d_p102 fu O.len hN h) ?_
 intro e Q a b
 conv=>cbv
 refine z0s hO (by subst hO;exact k2) ?_
 conv=>cbv
 refine⟨by subst a hO;rfl,?_⟩
 intro r bs d
 rw [b] at d
 clear a b h
 obtain⟨y23,y24,y25,y26,y27,_,_,⟨rfl,rfl⟩,h⟩:=d
 conv=>cbv
 refine z0b hO ?_
 conv=>cbv
 rw [b]
 exact⟨y23,y24,y25,y26,y27,y21,y22,_,⟨(by subst hO;rfl),(by subst hO;rfl)⟩,h⟩
 conv=>cbv
 refine br_h hO h (by subst hO;rfl) (fun k3 h=>?_) (fun k3 h=>?_)
 conv=>cbv
 refine z0c hO [.ref 2,.shut] (ih_p55 O.len hN h) ?_
 intro e Q a b
 conv=>cbv
 refine⟨by subst a hO;rfl,?_⟩
 intro r bs d
 rw [b] at d
 clear a b h
 obtain⟨y28,y29,y30,y31,y32,y33,y34,_,⟨rfl,rfl⟩,h⟩:=d
 conv=>cbv
 refine z0h hO tiA [[0],[],[],[],[]] [(0,true,false),(1,true,false),(2,true,false),(3,false,false),(4,false,true),(5,false,true),(6,false,true)] (by kernel_rfl) ?_
 conv=>cbv
 refine z0c hO [.ref 2,.shut] (ih_p55 O.len hN h) ?_
 intro e Q a b
 conv=>cbv
 refine⟨by subst a hO;rfl,?_⟩
 intro r bs d
 rw [b] at d
 clear a b h
 obtain⟨y35,y36,y37,y38,y39,y40,y41,_,⟨rfl,rfl⟩,h⟩:=d
 conv=>cbv
 refine agr hO rfl rfl ?_
 have hz:=z0q h
 have k4:=hz.1
 replace h:=hz.2
 clear hz
 refine z0c hO [.shut,.shut] (d_p102 fu O.len hN h) ?_
 intro e Q a b
 conv=>cbv
 refine z0s hO (by subst hO;exact k4) ?_
 conv=>cbv
 refine⟨by subst a hO;rfl,?_⟩
 intro r bs d
 rw [b] at d
 clear a b h
 obtain⟨y42,y43,y44,y45,y46,_,_,⟨rfl,rfl⟩,h⟩:=d
 conv=>cbv
 refine z0b hO ?_
 conv=>cbv
 rw [b]
 exact⟨y42,y43,y44,y45,y46,y40,y41,_,⟨(by subst hO;rfl),(by subst hO;rfl)⟩,h⟩
 conv=>cbv
 refine br_h hO h (by subst hO;rfl) (fun k5 h=>?_) (fun k5 h=>?_)
 conv=>cbv
 refine z0c hO [.shut] (d_p57 fu O.len hN h) ?_
 intro e Q a b
 conv=>cbv
 refine⟨by subst a hO;rfl,?_⟩
 intro r bs d
 rw [b] at d
 clear a b h
 obtain⟨y47,y48,y49,y50,y51,_,⟨rfl,rfl⟩,h⟩:=d
 conv=>cbv
 refine z0c hO [.ref 2,.shut] (ih_p55 O.len hN h) ?_
 intro e Q a b
 conv=>cbv
 refine⟨by subst a hO;rfl,?_⟩
 intro r bs d
 rw [b] at d
 clear a b h
 obtain⟨y52,y53,y54,y55,y56,y57,y58,_,⟨rfl,rfl⟩,h⟩:=d
 conv=>cbv
 refine z0c hO [.shut,.shut] (d_p48 fu O.len hN h) ?_
 intro e Q a b
 conv=>cbv
 refine⟨by subst a hO;rfl,?_⟩
 intro r bs d
 rw [b] at d
 clear a b h
 obtain⟨y59,y60,y61,y62,y63,_,_,⟨rfl,rfl⟩,h⟩:=d
 conv=>cbv
 rw [b]
 exact⟨y59,y60,y61,y62,y63,y57,y58,_,⟨(by subst hO;rfl),(by subst hO;rfl)⟩,h⟩
 conv=>cbv
 refine br_h hO h (by subst hO;rfl) (fun k6 h=>?_) (fun k6 h=>?_)
 conv=>cbv
 refine z0c hO [.ref 2,.shut] (ih_p55 O.len hN h) ?_
 intro e Q a b
 conv=>cbv
 refine⟨by subst a hO;rfl,?_⟩
 intro r bs d
 rw [b] at d
 clear a b h
 obtain⟨y64,y65,y66,y67,y68,y69,y70,_,⟨rfl,rfl⟩,h⟩:=d
 conv=>cbv
 have hz:=z0q h
 have k7:=hz.1
 replace h:=hz.2
 clear hz
 refine z0c hO [.shut,.shut] (d_p102 fu O.len hN h) ?_
 intro e Q a b
 conv=>cbv
 refine z0s hO (by subst hO;exact k7) ?_
 conv=>cbv
 refine⟨by subst a hO;rfl,?_⟩
 intro r bs d
 rw [b] at d
 clear a b h
 obtain⟨y71,y72,y73,y74,y75,_,_,⟨rfl,rfl⟩,h⟩:=d
 conv=>cbv
 rw [b]
 exact⟨y71,y72,y73,y74,y75,y69,y70,_,⟨(by subst hO;rfl),(by subst hO;rfl)⟩,h⟩
 conv=>cbv
 refine z0f hO tiA h (by subst hO;rfl) [0,1,4] [0,5000] [] (fun tm m=>∃ (j76:EL) (j77:Int),((tm=frame 0 63 [(0,.p 0 0 0),(1,.c (.v (.int .i64 x2))),(4,.p 5000 1 0)]∧m=⟨[(0,.blk 0 [.c (.sl 1 j76 none),.c (.v (.int .i64 j77))]),(5000,.blk 1 [.c (.v (.int .i64 0)),.c (.v (.int .i64 0)),.c (.v (.string ⟨#[]⟩)),.c (.sl 3 [] (some [])),.c (.sl 5 [] (some []))])],2⟩))∧p55_1 False fu (p55 False fu) K0 x2 j76 j77) (fun k9 h L hL_1=>?_) (fun k9 h L hL_1=>?_) ?_
 conv=>cbv
 refine z0c hO [.ref 2] (d_p105 fu O.len hN h) ?_
 intro e Q a b
 conv=>cbv
 refine⟨by subst a hO;rfl,?_⟩
 intro r bs d
 rw [b] at d
 clear a b h
 obtain⟨y90,y91,y92,⟨rfl,rfl⟩,h⟩:=d
 conv=>cbv
 refine br_h hO h (by subst hO;rfl) (fun k10 h=>?_) (fun k10 h=>?_)
 conv=>cbv
 refine z0c hO [.shut] (d_p57 fu O.len hN h) ?_
 intro e Q a b
 conv=>cbv
 refine⟨by subst a hO;rfl,?_⟩
 intro r bs d
 rw [b] at d
 clear a b h
 obtain⟨y93,y94,y95,y96,y97,_,⟨rfl,rfl⟩,h⟩:=d
 conv=>cbv
 refine z0c hO [.ref 2,.shut] (ih_p55 O.len hN h) ?_
 intro e Q a b
 conv=>cbv
 refine⟨by subst a hO;rfl,?_⟩
 intro r bs d
 rw [b] at d
 clear a b h
 obtain⟨y98,y99,y100,y101,y102,y103,y104,_,⟨rfl,rfl⟩,h⟩:=d
 conv=>cbv
 have hz:=z0q h
 have k11:=hz.1
 replace h:=hz.2
 clear hz
 refine z0c hO [.shut,.shut] (d_p102 fu O.len hN h) ?_
 intro e Q a b
 conv=>cbv
 refine z0s hO (by subst hO;exact k11) ?_
 conv=>cbv
 refine⟨by subst a hO;rfl,?_⟩
 intro r bs d
 rw [b] at d
 clear a b h
 obtain⟨y105,y106,y107,y108,y109,_,_,⟨rfl,rfl⟩,h⟩:=d
 conv=>cbv
 rw [b]
 exact⟨y105,y106,y107,y108,y109,y103,y104,_,⟨(by subst hO;rfl),(by subst hO;rfl)⟩,h⟩
 conv=>cbv
 refine z0b hO ?_
 conv=>cbv
 exact hL_1 _ _ ⟨y91,y92,⟨(by (conv=>lhs;cbv)<;>(subst hO;rfl)),(by (conv=>lhs;cbv)<;>(subst hO;rfl))⟩,h⟩
 conv=>cbv
 exact hL_1 _ _ ⟨y2,y3,⟨(by (conv=>lhs;cbv)<;>(subst hO;rfl)),(by (conv=>lhs;cbv)<;>(subst hO;rfl))⟩,h⟩
 rintro tm m ⟨j76,j77,hs,h⟩
 unfold p55_1 at h
 obtain⟨rfl,rfl⟩:=hs
 conv=>cbv
 refine z0b hO ?_
 conv=>cbv
 refine z0b hO ?_
 conv=>cbv
 refine z0b hO ?_
 conv=>cbv
 refine z0b hO ?_
 conv=>cbv
 refine z0c hO [.ref 2,.shut] (d_p53 fu O.len hN h) ?_
 intro e Q a b
 conv=>cbv
 refine⟨by subst a hO;rfl,?_⟩
 intro r bs d
 rw [b] at d
 clear a b h
 obtain⟨y78,y79,y80,y81,y82,y83,y84,_,⟨rfl,rfl⟩,h⟩:=d
 conv=>cbv
 have hz:=z0q h
 have k8:=hz.1
 replace h:=hz.2
 clear hz
 refine z0c hO [.shut,.shut] (d_p102 fu O.len hN h) ?_
 intro e Q a b
 conv=>cbv
 refine z0s hO (by subst hO;exact k8) ?_
 conv=>cbv
 refine⟨by subst a hO;rfl,?_⟩
 intro r bs d
 rw [b] at d
 clear a b h
 obtain⟨y85,y86,y87,y88,y89,_,_,⟨rfl,rfl⟩,h⟩:=d
 conv=>cbv
 rw [b]
 exact⟨y85,y86,y87,y88,y89,y83,y84,_,⟨(by subst hO;rfl),(by subst hO;rfl)⟩,h⟩
theorem dd_p55 (fu:Nat):D_p55 fu:=by
 induction fu with
 | zero=>unfold D_p55;intros;rename_i h;rw [p55] at h;exact h.elim
 | succ n ih =>
  exact (by unfold D_p55;intro K0 L hN x0 x1 x2 h;exact b_p55 n ih L hN (by rw [p55] at h;exact h))
theorem d_p55 (fu:Nat):D_p55 fu:=dd_p55 fu
theorem d_p106 (fu:Nat){K0:Int→Int→ByteArray→EL→EL→Prop}(L:EL→Nat)(hN:L=List.length){x0 x1:Int}{x2:ByteArray}{x3 x4:EL}{x5 x6:Int}(h:p106 False fu K0 x0 x1 x2 x3 x4 x5 x6):Den Try.prog G0 106 [.agg [.c (.v (.int .i64 x0)),.c (.v (.int .i64 x1)),.c (.v (.string x2)),.c (.sl 3 x3 none),.c (.sl 5 x4 none)],.c (.v (.int .i64 x5)),.c (.v (.int .i64 x6))] (fun r bs=>(∃ (y0 y1:Int) (y2:ByteArray) (y3 y4:EL) (o0 o1 o2:OV),(r=.agg [.c (.v (.int .i64 y0)),.c (.v (.int .i64 y1)),.c (.v (.string y2)),.c (.sl 3 y3 none),.c (.sl 5 y4 none)]∧bs=[o0,o1,o2])∧K0 y0 y1 y2 y3 y4)):=by
 obtain⟨O,hO⟩:∃ O,O=std 0 T G0 (Den Try.prog G0):=⟨_,rfl⟩
 have hLO:L=O.len:=by rw [hN,hO];rfl
 subst hLO
 refine den_h hO tiA mixed tabOk (fn:=Try.f106) (sh:=true) (by kernel_rfl) rfl rfl rfl rfl ?_
 intro Q b
 unfold p106 at h
 conv=>cbv
 refine z0c hO [.shut,.shut,.shut] (d_p131 fu O.len hN h) ?_
 intro e Q a b
 conv=>cbv
 refine⟨by subst a hO;rfl,?_⟩
 intro r bs d
 rw [b] at d
 clear a b h
 obtain⟨y1,y2,y3,y4,y5,_,_,_,⟨rfl,rfl⟩,h⟩:=d
 conv=>cbv
 rw [b]
 exact⟨y1,y2,y3,y4,y5,_,_,_,⟨(by subst hO;rfl),(by subst hO;rfl)⟩,h⟩
def D_p56 (fu:Nat):Prop:=∀ {K0:Int→Int→ByteArray→EL→EL→Int→Int→ByteArray→EL→EL→EL→Int→Prop} (L:EL→Nat) (_:L=List.length) {x0:EL} {x1 x2:Int} (_:p56 False fu K0 x0 x1 x2),Den Try.prog G0 56 [.ptr [.c (.sl 1 x0 none),.c (.v (.int .i64 x1))],.c (.v (.int .i64 x2))] (fun r bs=>(∃ (y0 y1:Int) (y2:ByteArray) (y3 y4:EL) (y5 y6:Int) (y7:ByteArray) (y8 y9 y10:EL) (y11:Int) (o1:OV),(r=.tup [.agg [.c (.v (.int .i64 y0)),.c (.v (.int .i64 y1)),.c (.v (.string y2)),.c (.sl 3 y3 none),.c (.sl 5 y4 none)],.agg [.c (.v (.int .i64 y5)),.c (.v (.int .i64 y6)),.c (.v (.string y7)),.c (.sl 3 y8 none),.c (.sl 5 y9 none)]]∧bs=[.ptr [.c (.sl 1 y10 none),.c (.v (.int .i64 y11))],o1])∧K0 y0 y1 y2 y3 y4 y5 y6 y7 y8 y9 y10 y11))
theorem b_p56 (fu:Nat)(ih_p56:D_p56 fu){K0:Int→Int→ByteArray→EL→EL→Int→Int→ByteArray→EL→EL→EL→Int→Prop}(L:EL→Nat)(hN:L=List.length){x0:EL}{x1 x2:Int}(h:p56_b False fu (p56 False fu) K0 x0 x1 x2):Den Try.prog G0 56 [.ptr [.c (.sl 1 x0 none),.c (.v (.int .i64 x1))],.c (.v (.int .i64 x2))] (fun r bs=>(∃ (y0 y1:Int) (y2:ByteArray) (y3 y4:EL) (y5 y6:Int) (y7:ByteArray) (y8 y9 y10:EL) (y11:Int) (o1:OV),(r=.tup [.agg [.c (.v (.int .i64 y0)),.c (.v (.int .i64 y1)),.c (.v (.string y2)),.c (.sl 3 y3 none),.c (.sl 5 y4 none)],.agg [.c (.v (.int .i64 y5)),.c (.v (.int .i64 y6)),.c (.v (.string y7)),.c (.sl 3 y8 none),.c (.sl 5 y9 none)]]∧bs=[.ptr [.c (.sl 1 y10 none),.c (.v (.int .i64 y11))],o1])∧K0 y0 y1 y2 y3 y4 y5 y6 y7 y8 y9 y10 y11)):=by
 obtain⟨O,hO⟩:∃ O,O=std 1 T G0 (Den Try.prog G0):=⟨_,rfl⟩
 have hLO:L=O.len:=by rw [hN,hO];rfl
 subst hLO
 refine den_h hO tiA mixed tabOk (fn:=Try.f56) (sh:=true) (by kernel_rfl) rfl rfl rfl rfl ?_
 intro Q b
 unfold p56_b at h
 conv=>cbv
 refine z0c hO [.ref 2,.shut] (d_p52 fu O.len hN h) ?_
 intro e Q a b
 conv=>cbv
 refine⟨by subst a hO;rfl,?_⟩
 intro r bs d
 rw [b] at d
 clear a b h
 obtain⟨y1,y2,y3,_,⟨rfl,rfl⟩,h⟩:=d
 conv=>cbv
 refine br_h hO h (by subst hO;rfl) (fun k1 h=>?_) (fun k1 h=>?_)
 conv=>cbv
 refine z0c hO [.ref 2,.shut] (d_p53 fu O.len hN h) ?_
 intro e Q a b
 conv=>cbv
 refine⟨by subst a hO;rfl,?_⟩
 intro r bs d
 rw [b] at d
 clear a b h
 obtain⟨y4,y5,y6,y7,y8,y9,y10,_,⟨rfl,rfl⟩,h⟩:=d
 conv=>cbv
 refine z0h hO tiA [[27000],[27000],[27000],[],[],[],[],[],[]] [(1,true,false),(5,true,false),(6,true,false),(0,false,false),(2,false,false),(3,false,false),(4,false,false),(7,false,true),(8,false,true),(9,false,true),(10,false,true)] (by kernel_rfl) ?_
 conv=>cbv
 refine z0c hO [.shut] (d_p57 fu O.len hN h) ?_
 intro e Q a b
 conv=>cbv
 refine⟨by subst a hO;rfl,?_⟩
 intro r bs d
 rw [b] at d
 clear a b h
 obtain⟨y11,y12,y13,y14,y15,_,⟨rfl,rfl⟩,h⟩:=d
 conv=>cbv
 refine agr hO rfl rfl ?_
 refine agr hO rfl rfl ?_
 have hz:=z0q h
 have k3:=hz.1
 replace h:=hz.2
 clear hz
 refine z0c hO [.shut,.shut] (d_p102 fu O.len hN h) ?_
 intro e Q a b
 conv=>cbv
 refine z0s hO (by subst hO;exact k3) ?_
 conv=>cbv
 refine⟨by subst a hO;rfl,?_⟩
 intro r bs d
 rw [b] at d
 clear a b h
 obtain⟨y16,y17,y18,y19,y20,_,_,⟨rfl,rfl⟩,h⟩:=d
 conv=>cbv
 refine agr hO rfl rfl ?_
 refine z0c hO [.shut] (d_p57 fu O.len hN h) ?_
 intro e Q a b
 conv=>cbv
 refine⟨by subst a hO;rfl,?_⟩
 intro r bs d
 rw [b] at d
 clear a b h
 obtain⟨y21,y22,y23,y24,y25,_,⟨rfl,rfl⟩,h⟩:=d
 conv=>cbv
 refine agr hO rfl rfl ?_
 have hz:=z0q h
 have k2:=hz.1
 replace h:=hz.2
 clear hz
 refine z0c hO [.shut,.shut] (d_p102 fu O.len hN h) ?_
 intro e Q a b
 conv=>cbv
 refine z0s hO (by subst hO;exact k2) ?_
 conv=>cbv
 refine⟨by subst a hO;rfl,?_⟩
 intro r bs d
 rw [b] at d
 clear a b h
 obtain⟨y26,y27,y28,y29,y30,_,_,⟨rfl,rfl⟩,h⟩:=d
 conv=>cbv
 refine z0b hO ?_
 conv=>cbv
 rw [b]
 exact⟨y16,y17,y18,y19,y20,y26,y27,y28,y29,y30,y9,y10,_,⟨(by subst hO;rfl),(by subst hO;rfl)⟩,h⟩
 conv=>cbv
 refine br_h hO h (by subst hO;rfl) (fun k4 h=>?_) (fun k4 h=>?_)
 conv=>cbv
 refine z0c hO [.ref 2,.shut] (ih_p56 O.len hN h) ?_
 intro e Q a b
 conv=>cbv
 refine⟨by subst a hO;rfl,?_⟩
 intro r bs d
 rw [b] at d
 clear a b h
 obtain⟨y31,y32,y33,y34,y35,y36,y37,y38,y39,y40,y41,y42,_,⟨rfl,rfl⟩,h⟩:=d
 conv=>cbv
 refine z0c hO [.ref 2,.shut] (ih_p56 O.len hN h) ?_
 intro e Q a b
 conv=>cbv
 refine⟨by subst a hO;rfl,?_⟩
 intro r bs d
 rw [b] at d
 clear a b h
 obtain⟨y43,y44,y45,y46,y47,y48,y49,y50,y51,y52,y53,y54,_,⟨rfl,rfl⟩,h⟩:=d
 conv=>cbv
 refine z5j hO tiA [[52000]] (.op 0 true false (.op 1 true false (.op 2 true false (.op 3 true false (.op 6 true false (.op 7 true false (.alt 4 8 false false (.alt 5 8 false false (.op 8 false false (.op 9 false true (.op 10 false true (.op 11 false true .nil)))) (.op 5 false false (.op 9 false true (.op 10 false true (.op 11 false true .nil))))) (.op 4 false false (.op 5 false false (.op 9 false true (.op 10 false true (.op 11 false true .nil)))))))))))) (by kernel_rfl) [4,5] [0,5000,6000] [] (fun tm m=>∃ (j55:Int) (j56:Int) (j57:ByteArray) (j58:EL) (j59:EL) (j60:Int) (j61:Int) (j62:ByteArray) (j63:EL) (j64:EL),((tm=frame 0 109 [(4,.p 5000 1 0),(5,.p 6000 1 0)]∧m=⟨[(0,.blk 0 [.c (.sl 1 y53 none),.c (.v (.int .i64 y54))]),(5000,.blk 1 [.c (.v (.int .i64 j55)),.c (.v (.int .i64 j56)),.c (.v (.string j57)),.c (.sl 3 j58 none),.c (.sl 5 j59 none)]),(6000,.blk 1 [.c (.v (.int .i64 j60)),.c (.v (.int .i64 j61)),.c (.v (.string j62)),.c (.sl 3 j63 none),.c (.sl 5 j64 none)])],2⟩))∧p56_1 False fu (p56 False fu) K0 y53 y54 j55 j56 j57 j58 j59 j60 j61 j62 j63 j64) (fun L hL_1=>?_) ?_
 conv=>cbv
 refine⟨?_,?_⟩
 refine agr hO rfl rfl ?_
 refine⟨?_,?_⟩
 have hz:=z0q h
 have k6:=hz.1
 replace h:=hz.2
 clear hz
 refine z0c hO [.shut,.shut] (d_p102 fu O.len hN h) ?_
 intro e Q a b
 conv=>cbv
 refine z0s hO (by subst hO;exact k6) ?_
 conv=>cbv
 refine⟨by subst a hO;rfl,?_⟩
 intro r bs d
 rw [b] at d
 clear a b h
 obtain⟨y65,y66,y67,y68,y69,_,_,⟨rfl,rfl⟩,h⟩:=d
 conv=>cbv
 refine agr hO rfl rfl ?_
 refine agr hO rfl rfl ?_
 have hz:=z0q h
 have k5:=hz.1
 replace h:=hz.2
 clear hz
 refine z0c hO [.shut,.shut] (d_p102 fu O.len hN h) ?_
 intro e Q a b
 conv=>cbv
 refine z0s hO (by subst hO;exact k5) ?_
 conv=>cbv
 refine⟨by subst a hO;rfl,?_⟩
 intro r bs d
 rw [b] at d
 clear a b h
 obtain⟨y70,y71,y72,y73,y74,_,_,⟨rfl,rfl⟩,h⟩:=d
 conv=>cbv
 exact hL_1 _ _ ⟨y65,y66,y67,y68,y69,y70,y71,y72,y73,y74,⟨(by (conv=>lhs;cbv)<;>(subst hO;rfl)),(by (conv=>lhs;cbv)<;>(subst hO;rfl))⟩,h⟩
 refine agr hO rfl rfl ?_
 have hz:=z0q h
 have k6:=hz.1
 replace h:=hz.2
 clear hz
 refine z0c hO [.shut,.shut] (d_p102 fu O.len hN h) ?_
 intro e Q a b
 conv=>cbv
 refine z0s hO (by subst hO;exact k6) ?_
 conv=>cbv
 refine⟨by subst a hO;rfl,?_⟩
 intro r bs d
 rw [b] at d
 clear a b h
 obtain⟨y65,y66,y67,y68,y69,_,_,⟨rfl,rfl⟩,h⟩:=d
 conv=>cbv
 refine agr hO rfl rfl ?_
 have hz:=z0q h
 have k5:=hz.1
 replace h:=hz.2
 clear hz
 refine z0c hO [.shut,.shut] (d_p102 fu O.len hN h) ?_
 intro e Q a b
 conv=>cbv
 refine z0s hO (by subst hO;exact k5) ?_
 conv=>cbv
 refine⟨by subst a hO;rfl,?_⟩
 intro r bs d
 rw [b] at d
 clear a b h
 obtain⟨y70,y71,y72,y73,y74,_,_,⟨rfl,rfl⟩,h⟩:=d
 conv=>cbv
 exact hL_1 _ _ ⟨y65,y66,y67,y68,y69,y70,y71,y72,y73,y74,⟨(by (conv=>lhs;cbv)<;>(subst hO;rfl)),(by (conv=>lhs;cbv)<;>(subst hO;rfl))⟩,h⟩
 refine agr hO rfl rfl ?_
 refine agr hO rfl rfl ?_
 have hz:=z0q h
 have k6:=hz.1
 replace h:=hz.2
 clear hz
 refine z0c hO [.shut,.shut] (d_p102 fu O.len hN h) ?_
 intro e Q a b
 conv=>cbv
 refine z0s hO (by subst hO;exact k6) ?_
 conv=>cbv
 refine⟨by subst a hO;rfl,?_⟩
 intro r bs d
 rw [b] at d
 clear a b h
 obtain⟨y65,y66,y67,y68,y69,_,_,⟨rfl,rfl⟩,h⟩:=d
 conv=>cbv
 refine agr hO rfl rfl ?_
 have hz:=z0q h
 have k5:=hz.1
 replace h:=hz.2
 clear hz
 refine z0c hO [.shut,.shut] (d_p102 fu O.len hN h) ?_
 intro e Q a b
 conv=>cbv
 refine z0s hO (by subst hO;exact k5) ?_
 conv=>cbv
 refine⟨by subst a hO;rfl,?_⟩
 intro r bs d
 rw [b] at d
 clear a b h
 obtain⟨y70,y71,y72,y73,y74,_,_,⟨rfl,rfl⟩,h⟩:=d
 conv=>cbv
 exact hL_1 _ _ ⟨y65,y66,y67,y68,y69,y70,y71,y72,y73,y74,⟨(by (conv=>lhs;cbv)<;>(subst hO;rfl)),(by (conv=>lhs;cbv)<;>(subst hO;rfl))⟩,h⟩
 rintro tm m ⟨j55,j56,j57,j58,j59,j60,j61,j62,j63,j64,hs,h⟩
 unfold p56_1 at h
 obtain⟨rfl,rfl⟩:=hs
 conv=>cbv
 rw [b]
 exact⟨j55,j56,j57,j58,j59,j60,j61,j62,j63,j64,y53,y54,_,⟨(by subst hO;rfl),(by subst hO;rfl)⟩,h⟩
 conv=>cbv
 refine br_h hO h (by subst hO;rfl) (fun k7 h=>?_) (fun k7 h=>?_)
 conv=>cbv
 refine z0c hO [.ref 2,.shut] (ih_p56 O.len hN h) ?_
 intro e Q a b
 conv=>cbv
 refine⟨by subst a hO;rfl,?_⟩
 intro r bs d
 rw [b] at d
 clear a b h
 obtain⟨y75,y76,y77,y78,y79,y80,y81,y82,y83,y84,y85,y86,_,⟨rfl,rfl⟩,h⟩:=d
 conv=>cbv
 refine z0h hO tiA [[],[],[],[],[],[],[]] [(1,true,false),(4,true,false),(0,false,false),(2,false,false),(3,false,false),(5,false,true),(6,false,true),(7,false,true)] (by kernel_rfl) ?_
 conv=>cbv
 refine z0c hO [.shut] (d_p57 fu O.len hN h) ?_
 intro e Q a b
 conv=>cbv
 refine⟨by subst a hO;rfl,?_⟩
 intro r bs d
 rw [b] at d
 clear a b h
 obtain⟨y87,y88,y89,y90,y91,_,⟨rfl,rfl⟩,h⟩:=d
 conv=>cbv
 refine agr hO rfl rfl ?_
 refine z0c hO [.shut,.shut] (d_p103 fu O.len hN h) ?_
 intro e Q a b
 conv=>cbv
 refine⟨by subst a hO;rfl,?_⟩
 intro r bs d
 rw [b] at d
 clear a b h
 obtain⟨y92,y93,y94,y95,y96,_,_,⟨rfl,rfl⟩,h⟩:=d
 conv=>cbv
 refine agr hO rfl rfl ?_
 refine z0c hO [.shut] (d_p57 fu O.len hN h) ?_
 intro e Q a b
 conv=>cbv
 refine⟨by subst a hO;rfl,?_⟩
 intro r bs d
 rw [b] at d
 clear a b h
 obtain⟨y97,y98,y99,y100,y101,_,⟨rfl,rfl⟩,h⟩:=d
 conv=>cbv
 refine agr hO rfl rfl ?_
 refine z0c hO [.shut,.shut] (d_p48 fu O.len hN h) ?_
 intro e Q a b
 conv=>cbv
 refine⟨by subst a hO;rfl,?_⟩
 intro r bs d
 rw [b] at d
 clear a b h
 obtain⟨y102,y103,y104,y105,y106,_,_,⟨rfl,rfl⟩,h⟩:=d
 conv=>cbv
 refine z0b hO ?_
 conv=>cbv
 rw [b]
 exact⟨y92,y93,y94,y95,y96,y102,y103,y104,y105,y106,y85,y86,_,⟨(by subst hO;rfl),(by subst hO;rfl)⟩,h⟩
 conv=>cbv
 refine br_h hO h (by subst hO;rfl) (fun k8 h=>?_) (fun k8 h=>?_)
 conv=>cbv
 refine z0c hO [.ref 2,.shut] (d_p55 fu O.len hN h) ?_
 intro e Q a b
 conv=>cbv
 refine⟨by subst a hO;rfl,?_⟩
 intro r bs d
 rw [b] at d
 clear a b h
 obtain⟨y107,y108,y109,y110,y111,y112,y113,_,⟨rfl,rfl⟩,h⟩:=d
 conv=>cbv
 refine z0h hO tiA [[],[],[],[],[],[],[]] [(0,true,false),(3,true,false),(4,true,false),(1,false,false),(2,false,false),(5,false,false),(6,false,true),(7,false,true),(8,false,true)] (by kernel_rfl) ?_
 conv=>cbv
 refine z0c hO [.shut] (d_p51 fu O.len hN h) ?_
 intro e Q a b
 conv=>cbv
 refine⟨by subst a hO;rfl,?_⟩
 intro r bs d
 rw [b] at d
 clear a b h
 obtain⟨y114,y115,y116,y117,y118,_,⟨rfl,rfl⟩,h⟩:=d
 conv=>cbv
 refine agr hO rfl rfl ?_
 refine z0c hO [.shut,.shut] (d_p103 fu O.len hN h) ?_
 intro e Q a b
 conv=>cbv
 refine⟨by subst a hO;rfl,?_⟩
 intro r bs d
 rw [b] at d
 clear a b h
 obtain⟨y119,y120,y121,y122,y123,_,_,⟨rfl,rfl⟩,h⟩:=d
 conv=>cbv
 refine agr hO rfl rfl ?_
 refine z0c hO [.shut,.shut,.shut] (d_p106 fu O.len hN h) ?_
 intro e Q a b
 conv=>cbv
 refine⟨by subst a hO;rfl,?_⟩
 intro r bs d
 rw [b] at d
 clear a b h
 obtain⟨y124,y125,y126,y127,y128,_,_,_,⟨rfl,rfl⟩,h⟩:=d
 conv=>cbv
 refine agr hO rfl rfl ?_
 refine z0c hO [.shut,.shut] (d_p48 fu O.len hN h) ?_
 intro e Q a b
 conv=>cbv
 refine⟨by subst a hO;rfl,?_⟩
 intro r bs d
 rw [b] at d
 clear a b h
 obtain⟨y129,y130,y131,y132,y133,_,_,⟨rfl,rfl⟩,h⟩:=d
 conv=>cbv
 refine z0b hO ?_
 conv=>cbv
 rw [b]
 exact⟨y119,y120,y121,y122,y123,y129,y130,y131,y132,y133,y112,y113,_,⟨(by subst hO;rfl),(by subst hO;rfl)⟩,h⟩
 conv=>cbv
 refine z0f hO tiA h (by subst hO;rfl) [0,1,4,5] [0,5000,6000] [] (fun tm m=>∃ (j134:EL) (j135:Int),((tm=frame 0 109 [(0,.p 0 0 0),(1,.c (.v (.int .i64 x2))),(4,.p 5000 1 0),(5,.p 6000 1 0)]∧m=⟨[(0,.blk 0 [.c (.sl 1 j134 none),.c (.v (.int .i64 j135))]),(5000,.blk 1 [.c (.v (.int .i64 0)),.c (.v (.int .i64 0)),.c (.v (.string ⟨#[]⟩)),.c (.sl 3 [] (some [])),.c (.sl 5 [] (some []))]),(6000,.blk 1 [.c (.v (.int .i64 0)),.c (.v (.int .i64 0)),.c (.v (.string ⟨#[]⟩)),.c (.sl 3 [] (some [])),.c (.sl 5 [] (some []))])],2⟩))∧p56_3 False fu (p56 False fu) K0 x2 j134 j135) (fun k11 h L hL_3=>?_) (fun k11 h L hL_3=>?_) ?_
 conv=>cbv
 refine z0c hO [.ref 2] (d_p105 fu O.len hN h) ?_
 intro e Q a b
 conv=>cbv
 refine⟨by subst a hO;rfl,?_⟩
 intro r bs d
 rw [b] at d
 clear a b h
 obtain⟨y163,y164,y165,⟨rfl,rfl⟩,h⟩:=d
 conv=>cbv
 refine br_h hO h (by subst hO;rfl) (fun k12 h=>?_) (fun k12 h=>?_)
 conv=>cbv
 refine z0c hO [.ref 2,.shut] (ih_p56 O.len hN h) ?_
 intro e Q a b
 conv=>cbv
 refine⟨by subst a hO;rfl,?_⟩
 intro r bs d
 rw [b] at d
 clear a b h
 obtain⟨y166,y167,y168,y169,y170,y171,y172,y173,y174,y175,y176,y177,_,⟨rfl,rfl⟩,h⟩:=d
 conv=>cbv
 refine z0h hO tiA [[5000,98000],[5000,98000],[5000],[],[]] [(0,true,false),(1,true,false),(4,true,false),(2,false,false),(3,false,false),(5,false,false),(6,false,true)] (by kernel_rfl) ?_
 conv=>cbv
 refine agr hO rfl rfl ?_
 have hz:=z0q h
 have k13:=hz.1
 replace h:=hz.2
 clear hz
 refine z0c hO [.shut,.shut] (d_p102 fu O.len hN h) ?_
 intro e Q a b
 conv=>cbv
 refine z0s hO (by subst hO;exact k13) ?_
 conv=>cbv
 refine⟨by subst a hO;rfl,?_⟩
 intro r bs d
 rw [b] at d
 clear a b h
 obtain⟨y178,y179,y180,y181,y182,_,_,⟨rfl,rfl⟩,h⟩:=d
 conv=>cbv
 refine agr hO rfl rfl ?_
 refine agr hO rfl rfl ?_
 refine z0b hO ?_
 conv=>cbv
 rw [b]
 exact⟨y178,y179,y180,y181,y182,y171,y172,y173,y174,y175,y176,y177,_,⟨(by subst hO;rfl),(by subst hO;rfl)⟩,h⟩
 conv=>cbv
 refine z0b hO ?_
 conv=>cbv
 exact hL_3 _ _ ⟨y164,y165,⟨(by (conv=>lhs;cbv)<;>(subst hO;rfl)),(by (conv=>lhs;cbv)<;>(subst hO;rfl))⟩,h⟩
 conv=>cbv
 exact hL_3 _ _ ⟨y2,y3,⟨(by (conv=>lhs;cbv)<;>(subst hO;rfl)),(by (conv=>lhs;cbv)<;>(subst hO;rfl))⟩,h⟩
 rintro tm m ⟨j134,j135,hs,h⟩
 unfold p56_3 at h
 obtain⟨rfl,rfl⟩:=hs
 conv=>cbv
 refine z0b hO ?_
 conv=>cbv
 refine z0b hO ?_
 conv=>cbv
 refine z0b hO ?_
 conv=>cbv
 refine z0b hO ?_
 conv=>cbv
 refine z0c hO [.ref 2,.shut] (d_p53 fu O.len hN h) ?_
 intro e Q a b
 conv=>cbv
 refine⟨by subst a hO;rfl,?_⟩
 intro r bs d
 rw [b] at d
 clear a b h
 obtain⟨y136,y137,y138,y139,y140,y141,y142,_,⟨rfl,rfl⟩,h⟩:=d
 conv=>cbv
 refine z5j hO tiA [[105000]] (.op 0 true false (.op 3 true false (.alt 1 4 false false (.alt 2 4 false false (.op 4 false false (.op 5 false true (.op 6 false true (.op 7 false true .nil)))) (.op 2 false false (.op 5 false true (.op 6 false true (.op 7 false true .nil))))) (.op 1 false false (.op 2 false false (.op 5 false true (.op 6 false true (.op 7 false true .nil)))))))) (by kernel_rfl) [4,5] [0,5000,6000] [] (fun tm m=>∃ (j143:Int) (j144:Int) (j145:ByteArray) (j146:EL) (j147:EL) (j148:Int) (j149:Int) (j150:ByteArray) (j151:EL) (j152:EL),((tm=frame 0 109 [(4,.p 5000 1 0),(5,.p 6000 1 0)]∧m=⟨[(0,.blk 0 [.c (.sl 1 y141 none),.c (.v (.int .i64 y142))]),(5000,.blk 1 [.c (.v (.int .i64 j143)),.c (.v (.int .i64 j144)),.c (.v (.string j145)),.c (.sl 3 j146 none),.c (.sl 5 j147 none)]),(6000,.blk 1 [.c (.v (.int .i64 j148)),.c (.v (.int .i64 j149)),.c (.v (.string j150)),.c (.sl 3 j151 none),.c (.sl 5 j152 none)])],2⟩))∧p56_2 False fu (p56 False fu) K0 y141 y142 j143 j144 j145 j146 j147 j148 j149 j150 j151 j152) (fun L hL_2=>?_) ?_
 conv=>cbv
 refine⟨?_,?_⟩
 refine agr hO rfl rfl ?_
 refine⟨?_,?_⟩
 have hz:=z0q h
 have k10:=hz.1
 replace h:=hz.2
 clear hz
 refine z0c hO [.shut,.shut] (d_p102 fu O.len hN h) ?_
 intro e Q a b
 conv=>cbv
 refine z0s hO (by subst hO;exact k10) ?_
 conv=>cbv
 refine⟨by subst a hO;rfl,?_⟩
 intro r bs d
 rw [b] at d
 clear a b h
 obtain⟨y153,y154,y155,y156,y157,_,_,⟨rfl,rfl⟩,h⟩:=d
 conv=>cbv
 refine agr hO rfl rfl ?_
 refine agr hO rfl rfl ?_
 have hz:=z0q h
 have k9:=hz.1
 replace h:=hz.2
 clear hz
 refine z0c hO [.shut,.shut] (d_p102 fu O.len hN h) ?_
 intro e Q a b
 conv=>cbv
 refine z0s hO (by subst hO;exact k9) ?_
 conv=>cbv
 refine⟨by subst a hO;rfl,?_⟩
 intro r bs d
 rw [b] at d
 clear a b h
 obtain⟨y158,y159,y160,y161,y162,_,_,⟨rfl,rfl⟩,h⟩:=d
 conv=>cbv
 exact hL_2 _ _ ⟨y153,y154,y155,y156,y157,y158,y159,y160,y161,y162,⟨(by (conv=>lhs;cbv)<;>(subst hO;rfl)),(by (conv=>lhs;cbv)<;>(subst hO;rfl))⟩,h⟩
 refine agr hO rfl rfl ?_
 have hz:=z0q h
 have k10:=hz.1
 replace h:=hz.2
 clear hz
 refine z0c hO [.shut,.shut] (d_p102 fu O.len hN h) ?_
 intro e Q a b
 conv=>cbv
 refine z0s hO (by subst hO;exact k10) ?_
 conv=>cbv
 refine⟨by subst a hO;rfl,?_⟩
 intro r bs d
 rw [b] at d
 clear a b h
 obtain⟨y153,y154,y155,y156,y157,_,_,⟨rfl,rfl⟩,h⟩:=d
 conv=>cbv
 refine agr hO rfl rfl ?_
 have hz:=z0q h
 have k9:=hz.1
 replace h:=hz.2
 clear hz
 refine z0c hO [.shut,.shut] (d_p102 fu O.len hN h) ?_
 intro e Q a b
 conv=>cbv
 refine z0s hO (by subst hO;exact k9) ?_
 conv=>cbv
 refine⟨by subst a hO;rfl,?_⟩
 intro r bs d
 rw [b] at d
 clear a b h
 obtain⟨y158,y159,y160,y161,y162,_,_,⟨rfl,rfl⟩,h⟩:=d
 conv=>cbv
 exact hL_2 _ _ ⟨y153,y154,y155,y156,y157,y158,y159,y160,y161,y162,⟨(by (conv=>lhs;cbv)<;>(subst hO;rfl)),(by (conv=>lhs;cbv)<;>(subst hO;rfl))⟩,h⟩
 refine agr hO rfl rfl ?_
 refine agr hO rfl rfl ?_
 have hz:=z0q h
 have k10:=hz.1
 replace h:=hz.2
 clear hz
 refine z0c hO [.shut,.shut] (d_p102 fu O.len hN h) ?_
 intro e Q a b
 conv=>cbv
 refine z0s hO (by subst hO;exact k10) ?_
 conv=>cbv
 refine⟨by subst a hO;rfl,?_⟩
 intro r bs d
 rw [b] at d
 clear a b h
 obtain⟨y153,y154,y155,y156,y157,_,_,⟨rfl,rfl⟩,h⟩:=d
 conv=>cbv
 refine agr hO rfl rfl ?_
 have hz:=z0q h
 have k9:=hz.1
 replace h:=hz.2
 clear hz
 refine z0c hO [.shut,.shut] (d_p102 fu O.len hN h) ?_
 intro e Q a b
 conv=>cbv
 refine z0s hO (by subst hO;exact k9) ?_
 conv=>cbv
 refine⟨by subst a hO;rfl,?_⟩
 intro r bs d
 rw [b] at d
 clear a b h
 obtain⟨y158,y159,y160,y161,y162,_,_,⟨rfl,rfl⟩,h⟩:=d
 conv=>cbv
 exact hL_2 _ _ ⟨y153,y154,y155,y156,y157,y158,y159,y160,y161,y162,⟨(by (conv=>lhs;cbv)<;>(subst hO;rfl)),(by (conv=>lhs;cbv)<;>(subst hO;rfl))⟩,h⟩
 rintro tm m ⟨j143,j144,j145,j146,j147,j148,j149,j150,j151,j152,hs,h⟩
 unfold p56_2 at h
 obtain⟨rfl,rfl⟩:=hs
 conv=>cbv
 rw [b]
 exact⟨j143,j144,j145,j146,j147,j148,j149,j150,j151,j152,y141,y142,_,⟨(by subst hO;rfl),(by subst hO;rfl)⟩,h⟩
theorem dd_p56 (fu:Nat):D_p56 fu:=by
 induction fu with
 | zero=>unfold D_p56;intros;rename_i h;rw [p56] at h;exact h.elim
 | succ n ih =>
  exact (by unfold D_p56;intro K0 L hN x0 x1 x2 h;exact b_p56 n ih L hN (by rw [p56] at h;exact h))
theorem d_p56 (fu:Nat):D_p56 fu:=dd_p56 fu
theorem d_p131b (fu:Nat){K0:Int→Int→ByteArray→EL→EL→Prop}(L:EL→Nat)(hN:L=List.length){x0 x1:Int}{x2:ByteArray}{x3 x4:EL}{x5 x6:Int}(h:p131b False fu K0 x0 x1 x2 x3 x4 x5 x6):Den Try.prog G0 131 [.agg [.c (.v (.int .i64 x0)),.c (.v (.int .i64 x1)),.c (.v (.string x2)),.c (.sl 3 x3 none),.c (.sl 5 x4 none)],.c (.v (.int .i64 x5)),.c (.v (.int .i64 x6))] (fun r bs=>(∃ (y0 y1:Int) (y2:ByteArray) (y3 y4:EL) (o0 o1 o2:OV),(y3=[]∧y4=[]∧r=.agg [.c (.v (.int .i64 y0)),.c (.v (.int .i64 y1)),.c (.v (.string y2)),.c (.sl 3 [] (some [])),.c (.sl 5 [] (some []))]∧bs=[o0,o1,o2])∧K0 y0 y1 y2 y3 y4)∨(∃ (y0 y1:Int) (y2:ByteArray) (y3 y4:EL) (o0 o1 o2:OV),(y3=[]∧r=.agg [.c (.v (.int .i64 y0)),.c (.v (.int .i64 y1)),.c (.v (.string y2)),.c (.sl 3 [] (some [])),.arr 5 y4 none false (L y4)]∧bs=[o0,o1,o2])∧K0 y0 y1 y2 y3 y4)∨(∃ (y0 y1:Int) (y2:ByteArray) (y3 y4:EL) (o0 o1 o2:OV),(y4=[]∧r=.agg [.c (.v (.int .i64 y0)),.c (.v (.int .i64 y1)),.c (.v (.string y2)),.arr 3 y3 none false (L y3),.c (.sl 5 [] (some []))]∧bs=[o0,o1,o2])∧K0 y0 y1 y2 y3 y4)∨(∃ (y0 y1:Int) (y2:ByteArray) (y3 y4:EL) (o0 o1 o2:OV),(r=.agg [.c (.v (.int .i64 y0)),.c (.v (.int .i64 y1)),.c (.v (.string y2)),.arr 3 y3 none false (L y3),.arr 5 y4 none false (L y4)]∧bs=[o0,o1,o2])∧K0 y0 y1 y2 y3 y4)):=by
 obtain⟨O,hO⟩:∃ O,O=std 0 T G0 (Den Try.prog G0):=⟨_,rfl⟩
 have hLO:L=O.len:=by rw [hN,hO];rfl
 subst hLO
 refine den_h hO tiA mixed tabOk (fn:=Try.f131) (sh:=false) (by kernel_rfl) rfl rfl rfl rfl ?_
 intro Q b
 unfold p131b at h
 conv=>cbv
 refine z0c hO [.shut] (d_p135 fu O.len hN h) ?_
 intro e Q a b
 conv=>cbv
 refine⟨by subst a hO;rfl,?_⟩
 intro r bs d
 rw [b] at d
 clear a b h
 rcases d with d | d
 obtain⟨y1,y2,y3,y4,y5,_,⟨rfl,rfl,rfl,rfl⟩,h⟩:=d
 conv=>cbv
 refine z0u hO tiA [1,2,3,6,7,19] [4000,7000,8000] [] (fun tm m=>∃ (j6:Bool),((tm=frame 0 51 [(1,.c (.v (.int .i64 x5))),(2,.c (.v (.int .i64 x6))),(3,.p 4000 0 0),(6,.p 7000 0 0),(7,.p 8000 0 0),(19,.c (.v (.bool j6)))]∧m=⟨[(4000,.blk 0 [.c (.v (.int .i64 x0)),.c (.v (.int .i64 x1)),.c (.v (.string x2)),.c (.sl 3 x3 none),.c (.sl 5 x4 none)]),(7000,.blk 0 [.c (.v (.int .i64 0)),.c (.v (.int .i64 0)),.c (.v (.string ⟨#[]⟩)),.c (.sl 3 [] (some [])),.c (.sl 5 [] (some []))]),(8000,.blk 0 [.c (.v (.int .i64 y1)),.c (.v (.int .i64 y2)),.c (.v (.string y3)),.c (.sl 3 [] (some [])),.c (.sl 5 [] (some []))])],1⟩))∧p131b_3 False fu K0 x0 x1 x4 x5 x6 y1 y2 y3 nilE nilE j6) (fun L hL_3=>?_) ?_
 conv=>cbv
 refine br_h hO h (by subst hO;rfl) (fun k3 h=>?_) (fun k3 h=>?_)
 conv=>cbv
 refine br_t hO k3 ?_
 conv=>cbv
 refine br_t hO k3 ?_
 conv=>cbv
 refine br_t hO k3 ?_
 conv=>cbv
 refine br_t hO k3 ?_
 conv=>cbv
 exact hL_3 _ _ ⟨(z0a .geq x1 x6),⟨(by (conv=>lhs;cbv)<;>(subst hO;rfl)),(by (conv=>lhs;cbv)<;>(subst hO;rfl))⟩,h⟩
 conv=>cbv
 refine br_f hO k3 ?_
 conv=>cbv
 refine br_f hO k3 ?_
 conv=>cbv
 refine br_f hO k3 ?_
 conv=>cbv
 refine br_f hO k3 ?_
 conv=>cbv
 exact hL_3 _ _ ⟨false,⟨(by (conv=>lhs;cbv)<;>(subst hO;rfl)),(by (conv=>lhs;cbv)<;>(subst hO;rfl))⟩,h⟩
 rintro tm m ⟨j6,hs,h⟩
 unfold p131b_3 at h
 obtain⟨rfl,rfl⟩:=hs
 conv=>cbv
 refine z0f hO tiA h (by subst hO;rfl) [1,2,3,6,7] [4000,7000,8000] [] (fun tm m=>∃ (j7:Int),((tm=frame 0 51 [(1,.c (.v (.int .i64 x5))),(2,.c (.v (.int .i64 x6))),(3,.p 4000 0 0),(6,.p 7000 0 0),(7,.p 8000 0 0)]∧m=⟨[(4000,.blk 0 [.c (.v (.int .i64 x0)),.c (.v (.int .i64 x1)),.c (.v (.string x2)),.c (.sl 3 x3 none),.c (.sl 5 x4 none)]),(7000,.blk 0 [.c (.v (.int .i64 0)),.c (.v (.int .i64 0)),.c (.v (.string ⟨#[]⟩)),.c (.sl 3 [] (some [])),.c (.sl 5 [] (some []))]),(8000,.blk 0 [.c (.v (.int .i64 y1)),.c (.v (.int .i64 j7)),.c (.v (.string y3)),.c (.sl 3 [] (some [])),.c (.sl 5 [] (some []))])],1⟩))∧p131b_2 False fu K0 x0 x4 x5 x6 y1 y3 nilE nilE j7) (fun k2 h L hL_2=>?_) (fun k2 h L hL_2=>?_) ?_
 conv=>cbv
 exact hL_2 _ _ ⟨z0d .add .i64 x1 x5,⟨(by (conv=>lhs;cbv)<;>(subst hO;rfl)),(by (conv=>lhs;cbv)<;>(subst hO;rfl))⟩,h⟩
 conv=>cbv
 exact hL_2 _ _ ⟨y2,⟨(by (conv=>lhs;cbv)<;>(subst hO;rfl)),(by (conv=>lhs;cbv)<;>(subst hO;rfl))⟩,h⟩
 rintro tm m ⟨j7,hs,h⟩
 unfold p131b_2 at h
 obtain⟨rfl,rfl⟩:=hs
 conv=>cbv
 refine z0r hO tiA [1,2,3,6,7,8] [4000,7000,8000,49000] [] (fun (n:Nat) tm m=>∃ (z8:EL) (z9:Int),((z8=[]∧tm=frame 0 51 [(1,.c (.v (.int .i64 x5))),(2,.c (.v (.int .i64 x6))),(3,.p 4000 0 0),(6,.p 7000 0 0),(7,.p 8000 0 0),(8,.c (.v (.int .i64 z9)))]∧m=⟨[(4000,.blk 0 [.c (.v (.int .i64 x0)),.c (.v (.int .i64 x1)),.c (.v (.string x2)),.c (.sl 3 x3 none),.c (.sl 5 x4 none)]),(7000,.blk 0 [.c (.v (.int .i64 0)),.c (.v (.int .i64 0)),.c (.v (.string ⟨#[]⟩)),.c (.sl 3 [] (some [])),.c (.sl 5 [] (some []))]),(8000,.blk 0 [.c (.v (.int .i64 y1)),.c (.v (.int .i64 j7)),.c (.v (.string y3)),.c (.sl 3 [] (some [])),.c (.sl 5 [] (some []))])],1⟩)∨(tm=frame 0 51 [(1,.c (.v (.int .i64 x5))),(2,.c (.v (.int .i64 x6))),(3,.p 4000 0 0),(6,.p 7000 0 0),(7,.p 8000 0 0),(8,.c (.v (.int .i64 z9)))]∧m=⟨[(4000,.blk 0 [.c (.v (.int .i64 x0)),.c (.v (.int .i64 x1)),.c (.v (.string x2)),.c (.sl 3 x3 none),.c (.sl 5 x4 none)]),(7000,.blk 0 [.c (.v (.int .i64 0)),.c (.v (.int .i64 0)),.c (.v (.string ⟨#[]⟩)),.c (.sl 3 [] (some [])),.c (.sl 5 [] (some []))]),(8000,.blk 0 [.c (.v (.int .i64 y1)),.c (.v (.int .i64 j7)),.c (.v (.string y3)),.c (.sl 3 [] (some [])),.t 49000 0 (O.len z8)]),(49000,.arr 0 5 z8 none false)],1⟩))∧p131b_1L False fu K0 x0 x4 x5 x6 y1 y3 nilE j7 n z8 z9) (fun n=>n) fu ⟨nilE,0,(.inl ⟨rfl,(by (conv=>lhs;cbv)<;>(subst hO;rfl)),(by (conv=>lhs;cbv)<;>(subst hO;rfl))⟩),h⟩ ?_
 rintro n1 tm m L ⟨z8,z9,hs,h⟩ hLn1
 (cases n1 with
 | zero=>rw [p131b_1L] at h;exact h.elim
 | succ n1 =>
 rw [p131b_1L] at h
 unfold p131b_1 at h
 rcases hs with hs | hs
 obtain⟨rfl,rfl,rfl⟩:=hs
 conv=>cbv
 refine br_h hO h (by subst hO;rfl) (fun k1 h=>?_) (fun k1 h=>?_)
 conv=>cbv
 refine z0b hO ?_
 conv=>cbv
 refine z0h hO tiA [[],[],[],[],[],[]] [(0,true,false),(1,true,false),(2,true,false),(3,true,false),(4,true,false),(5,true,false),(6,true,false),(7,true,false),(8,true,false),(9,true,false),(10,true,false),(11,true,false),(12,false,false),(13,true,false),(14,false,false),(15,false,false),(16,false,true),(17,true,true),(18,false,true)] (by kernel_rfl) ?_
 conv=>cbv
 refine and_h h (fun g=>(by subst hO;exact g)) (fun h=>?_)
 refine and_h h (fun g=>(by subst hO;exact g)) (fun h=>?_)
 obtain⟨c10,c11,c12,c13,c14,hr,h⟩:=z0e h
 refine z0m hO _ (by subst hO;exact hr) ?_
 clear hr
 conv=>cbv
 refine z0c hO [.shut,.shut] (d_p142 fu O.len hN h) ?_
 intro e Q a b
 conv=>cbv
 refine⟨by subst a hO;rfl,?_⟩
 intro r bs d
 rw [b] at d
 clear a b h
 obtain⟨y15,_,_,⟨rfl,rfl⟩,h⟩:=d
 conv=>cbv
 refine agr hO rfl rfl ?_
 refine z0c hO [.shut,.shut,.shut] (d_p131 fu O.len hN h) ?_
 intro e Q a b
 conv=>cbv
 refine⟨by subst a hO;rfl,?_⟩
 intro r bs d
 rw [b] at d
 clear a b h
 obtain⟨y16,y17,y18,y19,y20,_,_,_,⟨rfl,rfl⟩,h⟩:=d
 conv=>cbv
 refine agr hO rfl rfl ?_
 refine agr hO rfl rfl ?_
 refine z0t hO h (fun g=>(by subst hO;exact g)) (fun h=>?_)
 conv=>cbv
 refine and_h h (fun g=>(by subst hO;exact g)) (fun h=>?_)
 refine z4g hO (by subst hO;exact List.cons_ne_nil _ _) ?_
 conv=>cbv
 refine z0b hO ?_
 conv=>cbv
 exact hLn1 n1 _ _ (Nat.lt_succ_self n1) ⟨(nilE++(List.take 1 [[(CV.v (.int .i64 y16)),(CV.v (.int .i64 y17)),(CV.v (.string y18)),(CV.sl 3 y19 none),(CV.sl 5 y20 none)]])),z0d .add .i64 z9 1,(.inr ⟨(by (conv=>lhs;cbv)<;>(subst hO;rfl)),(by (conv=>lhs;cbv)<;>(subst hO;rfl))⟩),h⟩
 conv=>cbv
 rw [b]
 exact (.inl ⟨y1,j7,y3,nilE,nilE,_,_,_,⟨rfl,rfl,(by subst hO;rfl),(by subst hO;rfl)⟩,h⟩)
 obtain⟨rfl,rfl⟩:=hs
 conv=>cbv
 refine br_h hO h (by subst hO;rfl) (fun k1 h=>?_) (fun k1 h=>?_)
 conv=>cbv
 refine z0b hO ?_
 conv=>cbv
 refine z0h hO tiA [[],[],[],[],[],[]] [(0,true,false),(1,true,false),(2,true,false),(3,true,false),(4,true,false),(5,true,false),(6,true,false),(7,true,false),(8,true,false),(9,true,false),(10,true,false),(11,true,false),(12,false,false),(13,true,false),(14,false,false),(15,false,false),(16,false,true),(17,true,true),(18,false,true)] (by kernel_rfl) ?_
 conv=>cbv
 refine and_h h (fun g=>(by subst hO;exact g)) (fun h=>?_)
 refine and_h h (fun g=>(by subst hO;exact g)) (fun h=>?_)
 obtain⟨c10,c11,c12,c13,c14,hr,h⟩:=z0e h
 refine z0m hO _ (by subst hO;exact hr) ?_
 clear hr
 conv=>cbv
 refine z0c hO [.shut,.shut] (d_p142 fu O.len hN h) ?_
 intro e Q a b
 conv=>cbv
 refine⟨by subst a hO;rfl,?_⟩
 intro r bs d
 rw [b] at d
 clear a b h
 obtain⟨y15,_,_,⟨rfl,rfl⟩,h⟩:=d
 conv=>cbv
 refine agr hO rfl rfl ?_
 refine z0c hO [.shut,.shut,.shut] (d_p131 fu O.len hN h) ?_
 intro e Q a b
 conv=>cbv
 refine⟨by subst a hO;rfl,?_⟩
 intro r bs d
 rw [b] at d
 clear a b h
 obtain⟨y16,y17,y18,y19,y20,_,_,_,⟨rfl,rfl⟩,h⟩:=d
 conv=>cbv
 refine agr hO rfl rfl ?_
 refine agr hO rfl rfl ?_
 refine z0t hO h (fun g=>(by subst hO;exact g)) (fun h=>?_)
 conv=>cbv
 refine⟨(by subst hO;rfl),?_⟩
 refine and_h h (fun g=>(by subst hO;exact g)) (fun h=>?_)
 refine z0b hO ?_
 conv=>cbv
 exact hLn1 n1 _ _ (Nat.lt_succ_self n1) ⟨(z8++(List.take 1 [[(CV.v (.int .i64 y16)),(CV.v (.int .i64 y17)),(CV.v (.string y18)),(CV.sl 3 y19 none),(CV.sl 5 y20 none)]])),z0d .add .i64 z9 1,(.inr ⟨(by (conv=>lhs;cbv)<;>(subst hO;rfl)),(by (conv=>lhs;cbv)<;>(subst hO;rfl))⟩),h⟩
 conv=>cbv
 refine⟨(by subst hO;exact Nat.le_refl _),?_⟩
 rw [b]
 exact (.inr (.inl ⟨y1,j7,y3,nilE,z8,_,_,_,⟨rfl,(by subst hO;rfl),(by subst hO;rfl)⟩,h⟩)))
 obtain⟨y1,y2,y3,y4,y5,_,⟨rfl,rfl,rfl⟩,h⟩:=d
 conv=>cbv
 refine z0u hO tiA [1,2,3,6,7,19] [4000,7000,8000,11000] [] (fun tm m=>∃ (j6:Bool),((tm=frame 0 51 [(1,.c (.v (.int .i64 x5))),(2,.c (.v (.int .i64 x6))),(3,.p 4000 0 0),(6,.p 7000 0 0),(7,.p 8000 0 0),(19,.c (.v (.bool j6)))]∧m=⟨[(4000,.blk 0 [.c (.v (.int .i64 x0)),.c (.v (.int .i64 x1)),.c (.v (.string x2)),.c (.sl 3 x3 none),.c (.sl 5 x4 none)]),(7000,.blk 0 [.c (.v (.int .i64 0)),.c (.v (.int .i64 0)),.c (.v (.string ⟨#[]⟩)),.c (.sl 3 [] (some [])),.c (.sl 5 [] (some []))]),(8000,.blk 0 [.c (.v (.int .i64 y1)),.c (.v (.int .i64 y2)),.c (.v (.string y3)),.t 11000 0 (O.len y4),.c (.sl 5 [] (some []))]),(11000,.arr 0 3 y4 none false)],1⟩))∧p131b_3 False fu K0 x0 x1 x4 x5 x6 y1 y2 y3 y4 nilE j6) (fun L hL_3=>?_) ?_
 conv=>cbv
 refine br_h hO h (by subst hO;rfl) (fun k3 h=>?_) (fun k3 h=>?_)
 conv=>cbv
 refine br_t hO k3 ?_
 conv=>cbv
 refine br_t hO k3 ?_
 conv=>cbv
 refine br_t hO k3 ?_
 conv=>cbv
 refine br_t hO k3 ?_
 conv=>cbv
 exact hL_3 _ _ ⟨(z0a .geq x1 x6),⟨(by (conv=>lhs;cbv)<;>(subst hO;rfl)),(by (conv=>lhs;cbv)<;>(subst hO;rfl))⟩,h⟩
 conv=>cbv
 refine br_f hO k3 ?_
 conv=>cbv
 refine br_f hO k3 ?_
 conv=>cbv
 refine br_f hO k3 ?_
 conv=>cbv
 refine br_f hO k3 ?_
 conv=>cbv
 exact hL_3 _ _ ⟨false,⟨(by (conv=>lhs;cbv)<;>(subst hO;rfl)),(by (conv=>lhs;cbv)<;>(subst hO;rfl))⟩,h⟩
 rintro tm m ⟨j6,hs,h⟩
 unfold p131b_3 at h
 obtain⟨rfl,rfl⟩:=hs
 conv=>cbv
 refine z0f hO tiA h (by subst hO;rfl) [1,2,3,6,7] [4000,7000,8000,11000] [] (fun tm m=>∃ (j7:Int),((tm=frame 0 51 [(1,.c (.v (.int .i64 x5))),(2,.c (.v (.int .i64 x6))),(3,.p 4000 0 0),(6,.p 7000 0 0),(7,.p 8000 0 0)]∧m=⟨[(4000,.blk 0 [.c (.v (.int .i64 x0)),.c (.v (.int .i64 x1)),.c (.v (.string x2)),.c (.sl 3 x3 none),.c (.sl 5 x4 none)]),(7000,.blk 0 [.c (.v (.int .i64 0)),.c (.v (.int .i64 0)),.c (.v (.string ⟨#[]⟩)),.c (.sl 3 [] (some [])),.c (.sl 5 [] (some []))]),(8000,.blk 0 [.c (.v (.int .i64 y1)),.c (.v (.int .i64 j7)),.c (.v (.string y3)),.t 11000 0 (O.len y4),.c (.sl 5 [] (some []))]),(11000,.arr 0 3 y4 none false)],1⟩))∧p131b_2 False fu K0 x0 x4 x5 x6 y1 y3 y4 nilE j7) (fun k2 h L hL_2=>?_) (fun k2 h L hL_2=>?_) ?_
 conv=>cbv
 exact hL_2 _ _ ⟨z0d .add .i64 x1 x5,⟨(by (conv=>lhs;cbv)<;>(subst hO;rfl)),(by (conv=>lhs;cbv)<;>(subst hO;rfl))⟩,h⟩
 conv=>cbv
 exact hL_2 _ _ ⟨y2,⟨(by (conv=>lhs;cbv)<;>(subst hO;rfl)),(by (conv=>lhs;cbv)<;>(subst hO;rfl))⟩,h⟩
 rintro tm m ⟨j7,hs,h⟩
 unfold p131b_2 at h
 obtain⟨rfl,rfl⟩:=hs
 conv=>cbv
 refine z0r hO tiA [1,2,3,6,7,8] [4000,7000,8000,11000,49000] [] (fun (n:Nat) tm m=>∃ (z8:EL) (z9:Int),((z8=[]∧tm=frame 0 51 [(1,.c (.v (.int .i64 x5))),(2,.c (.v (.int .i64 x6))),(3,.p 4000 0 0),(6,.p 7000 0 0),(7,.p 8000 0 0),(8,.c (.v (.int .i64 z9)))]∧m=⟨[(4000,.blk 0 [.c (.v (.int .i64 x0)),.c (.v (.int .i64 x1)),.c (.v (.string x2)),.c (.sl 3 x3 none),.c (.sl 5 x4 none)]),(7000,.blk 0 [.c (.v (.int .i64 0)),.c (.v (.int .i64 0)),.c (.v (.string ⟨#[]⟩)),.c (.sl 3 [] (some [])),.c (.sl 5 [] (some []))]),(8000,.blk 0 [.c (.v (.int .i64 y1)),.c (.v (.int .i64 j7)),.c (.v (.string y3)),.t 11000 0 (O.len y4),.c (.sl 5 [] (some []))]),(11000,.arr 0 3 y4 none false)],1⟩)∨(tm=frame 0 51 [(1,.c (.v (.int .i64 x5))),(2,.c (.v (.int .i64 x6))),(3,.p 4000 0 0),(6,.p 7000 0 0),(7,.p 8000 0 0),(8,.c (.v (.int .i64 z9)))]∧m=⟨[(4000,.blk 0 [.c (.v (.int .i64 x0)),.c (.v (.int .i64 x1)),.c (.v (.string x2)),.c (.sl 3 x3 none),.c (.sl 5 x4 none)]),(7000,.blk 0 [.c (.v (.int .i64 0)),.c (.v (.int .i64 0)),.c (.v (.string ⟨#[]⟩)),.c (.sl 3 [] (some [])),.c (.sl 5 [] (some []))]),(8000,.blk 0 [.c (.v (.int .i64 y1)),.c (.v (.int .i64 j7)),.c (.v (.string y3)),.t 11000 0 (O.len y4),.t 49000 0 (O.len z8)]),(11000,.arr 0 3 y4 none false),(49000,.arr 0 5 z8 none false)],1⟩))∧p131b_1L False fu K0 x0 x4 x5 x6 y1 y3 y4 j7 n z8 z9) (fun n=>n) fu ⟨nilE,0,(.inl ⟨rfl,(by (conv=>lhs;cbv)<;>(subst hO;rfl)),(by (conv=>lhs;cbv)<;>(subst hO;rfl))⟩),h⟩ ?_
 rintro n1 tm m L ⟨z8,z9,hs,h⟩ hLn1
 (cases n1 with
 | zero=>rw [p131b_1L] at h;exact h.elim
 | succ n1 =>
 rw [p131b_1L] at h
 unfold p131b_1 at h
 rcases hs with hs | hs
 obtain⟨rfl,rfl,rfl⟩:=hs
 conv=>cbv
 refine br_h hO h (by subst hO;rfl) (fun k1 h=>?_) (fun k1 h=>?_)
 conv=>cbv
 refine z0b hO ?_
 conv=>cbv
 refine z0h hO tiA [[],[],[],[],[],[]] [(0,true,false),(1,true,false),(2,true,false),(3,true,false),(4,true,false),(5,true,false),(6,true,false),(7,true,false),(8,true,false),(9,true,false),(10,true,false),(11,true,false),(12,false,false),(13,true,false),(14,false,false),(15,false,false),(16,false,true),(17,true,true),(18,false,true)] (by kernel_rfl) ?_
 conv=>cbv
 refine and_h h (fun g=>(by subst hO;exact g)) (fun h=>?_)
 refine and_h h (fun g=>(by subst hO;exact g)) (fun h=>?_)
 obtain⟨c10,c11,c12,c13,c14,hr,h⟩:=z0e h
 refine z0m hO _ (by subst hO;exact hr) ?_
 clear hr
 conv=>cbv
 refine z0c hO [.shut,.shut] (d_p142 fu O.len hN h) ?_
 intro e Q a b
 conv=>cbv
 refine⟨by subst a hO;rfl,?_⟩
 intro r bs d
 rw [b] at d
 clear a b h
 obtain⟨y15,_,_,⟨rfl,rfl⟩,h⟩:=d
 conv=>cbv
 refine agr hO rfl rfl ?_
 refine z0c hO [.shut,.shut,.shut] (d_p131 fu O.len hN h) ?_
 intro e Q a b
 conv=>cbv
 refine⟨by subst a hO;rfl,?_⟩
 intro r bs d
 rw [b] at d
 clear a b h
 obtain⟨y16,y17,y18,y19,y20,_,_,_,⟨rfl,rfl⟩,h⟩:=d
 conv=>cbv
 refine agr hO rfl rfl ?_
 refine agr hO rfl rfl ?_
 refine z0t hO h (fun g=>(by subst hO;exact g)) (fun h=>?_)
 conv=>cbv
 refine and_h h (fun g=>(by subst hO;exact g)) (fun h=>?_)
 refine z4g hO (by subst hO;exact List.cons_ne_nil _ _) ?_
 conv=>cbv
 refine z0b hO ?_
 conv=>cbv
 exact hLn1 n1 _ _ (Nat.lt_succ_self n1) ⟨(nilE++(List.take 1 [[(CV.v (.int .i64 y16)),(CV.v (.int .i64 y17)),(CV.v (.string y18)),(CV.sl 3 y19 none),(CV.sl 5 y20 none)]])),z0d .add .i64 z9 1,(.inr ⟨(by (conv=>lhs;cbv)<;>(subst hO;rfl)),(by (conv=>lhs;cbv)<;>(subst hO;rfl))⟩),h⟩
 conv=>cbv
 refine⟨(by subst hO;exact Nat.le_refl _),?_⟩
 rw [b]
 exact (.inr (.inr (.inl ⟨y1,j7,y3,y4,nilE,_,_,_,⟨rfl,(by subst hO;rfl),(by subst hO;rfl)⟩,h⟩)))
 obtain⟨rfl,rfl⟩:=hs
 conv=>cbv
 refine br_h hO h (by subst hO;rfl) (fun k1 h=>?_) (fun k1 h=>?_)
 conv=>cbv
 refine z0b hO ?_
 conv=>cbv
 refine z0h hO tiA [[],[],[],[],[],[]] [(0,true,false),(1,true,false),(2,true,false),(3,true,false),(4,true,false),(5,true,false),(6,true,false),(7,true,false),(8,true,false),(9,true,false),(10,true,false),(11,true,false),(12,false,false),(13,true,false),(14,false,false),(15,false,false),(16,false,true),(17,true,true),(18,false,true)] (by kernel_rfl) ?_
 conv=>cbv
 refine and_h h (fun g=>(by subst hO;exact g)) (fun h=>?_)
 refine and_h h (fun g=>(by subst hO;exact g)) (fun h=>?_)
 obtain⟨c10,c11,c12,c13,c14,hr,h⟩:=z0e h
 refine z0m hO _ (by subst hO;exact hr) ?_
 clear hr
 conv=>cbv
 refine z0c hO [.shut,.shut] (d_p142 fu O.len hN h) ?_
 intro e Q a b
 conv=>cbv
 refine⟨by subst a hO;rfl,?_⟩
 intro r bs d
 rw [b] at d
 clear a b h
 obtain⟨y15,_,_,⟨rfl,rfl⟩,h⟩:=d
 conv=>cbv
 refine agr hO rfl rfl ?_
 refine z0c hO [.shut,.shut,.shut] (d_p131 fu O.len hN h) ?_
 intro e Q a b
 conv=>cbv
 refine⟨by subst a hO;rfl,?_⟩
 intro r bs d
 rw [b] at d
 clear a b h
 obtain⟨y16,y17,y18,y19,y20,_,_,_,⟨rfl,rfl⟩,h⟩:=d
 conv=>cbv
 refine agr hO rfl rfl ?_
 refine agr hO rfl rfl ?_
 refine z0t hO h (fun g=>(by subst hO;exact g)) (fun h=>?_)
 conv=>cbv
 refine⟨(by subst hO;rfl),?_⟩
 refine and_h h (fun g=>(by subst hO;exact g)) (fun h=>?_)
 refine z0b hO ?_
 conv=>cbv
 exact hLn1 n1 _ _ (Nat.lt_succ_self n1) ⟨(z8++(List.take 1 [[(CV.v (.int .i64 y16)),(CV.v (.int .i64 y17)),(CV.v (.string y18)),(CV.sl 3 y19 none),(CV.sl 5 y20 none)]])),z0d .add .i64 z9 1,(.inr ⟨(by (conv=>lhs;cbv)<;>(subst hO;rfl)),(by (conv=>lhs;cbv)<;>(subst hO;rfl))⟩),h⟩
 conv=>cbv
 refine⟨(by subst hO;exact Nat.le_refl _),?_⟩
 refine⟨(by subst hO;exact Nat.le_refl _),?_⟩
 rw [b]
 exact (.inr (.inr (.inr ⟨y1,j7,y3,y4,z8,_,_,_,⟨(by subst hO;rfl),(by subst hO;rfl)⟩,h⟩))))
theorem d_p100b (fu:Nat){K0:Int→Int→ByteArray→EL→EL→Prop}(L:EL→Nat)(hN:L=List.length){x0 x1:Int}{x2:ByteArray}{x3 x4:EL}(h:p100b False fu K0 x0 x1 x2 x3 x4):Den Try.prog G0 100 [.agg [.c (.v (.int .i64 x0)),.c (.v (.int .i64 x1)),.c (.v (.string x2)),.c (.sl 3 x3 none),.c (.sl 5 x4 none)]] (fun r bs=>(∃ (y0 y1:Int) (y2:ByteArray) (y3 y4:EL) (o0:OV),(y3=[]∧y4=[]∧r=.agg [.c (.v (.int .i64 y0)),.c (.v (.int .i64 y1)),.c (.v (.string y2)),.c (.sl 3 [] (some [])),.c (.sl 5 [] (some []))]∧bs=[o0])∧K0 y0 y1 y2 y3 y4)∨(∃ (y0 y1:Int) (y2:ByteArray) (y3 y4:EL) (o0:OV),(y3=[]∧r=.agg [.c (.v (.int .i64 y0)),.c (.v (.int .i64 y1)),.c (.v (.string y2)),.c (.sl 3 [] (some [])),.arr 5 y4 none false (L y4)]∧bs=[o0])∧K0 y0 y1 y2 y3 y4)∨(∃ (y0 y1:Int) (y2:ByteArray) (y3 y4:EL) (o0:OV),(y4=[]∧r=.agg [.c (.v (.int .i64 y0)),.c (.v (.int .i64 y1)),.c (.v (.string y2)),.arr 3 y3 none false (L y3),.c (.sl 5 [] (some []))]∧bs=[o0])∧K0 y0 y1 y2 y3 y4)∨(∃ (y0 y1:Int) (y2:ByteArray) (y3 y4:EL) (o0:OV),(r=.agg [.c (.v (.int .i64 y0)),.c (.v (.int .i64 y1)),.c (.v (.string y2)),.arr 3 y3 none false (L y3),.arr 5 y4 none false (L y4)]∧bs=[o0])∧K0 y0 y1 y2 y3 y4)):=by
 obtain⟨O,hO⟩:∃ O,O=std 0 T G0 (Den Try.prog G0):=⟨_,rfl⟩
 have hLO:L=O.len:=by rw [hN,hO];rfl
 subst hLO
 refine den_h hO tiA mixed tabOk (fn:=Try.f100) (sh:=false) (by kernel_rfl) rfl rfl rfl rfl ?_
 intro Q b
 unfold p100b at h
 conv=>cbv
 refine z0c hO [.shut,.shut,.shut] (d_p131b fu O.len hN h) ?_
 intro e Q a b
 conv=>cbv
 refine⟨by subst a hO;rfl,?_⟩
 intro r bs d
 rw [b] at d
 clear a b h
 rcases d with d | d | d | d
 obtain⟨y1,y2,y3,y4,y5,_,_,_,⟨rfl,rfl,rfl,rfl⟩,h⟩:=d
 conv=>cbv
 rw [b]
 exact (.inl ⟨y1,y2,y3,nilE,nilE,_,⟨rfl,rfl,(by subst hO;rfl),(by subst hO;rfl)⟩,h⟩)
 obtain⟨y1,y2,y3,y4,y5,_,_,_,⟨rfl,rfl,rfl⟩,h⟩:=d
 conv=>cbv
 refine⟨(by subst hO;exact Nat.le_refl _),?_⟩
 rw [b]
 exact (.inr (.inl ⟨y1,y2,y3,nilE,y5,_,⟨rfl,(by subst hO;rfl),(by subst hO;rfl)⟩,h⟩))
 obtain⟨y1,y2,y3,y4,y5,_,_,_,⟨rfl,rfl,rfl⟩,h⟩:=d
 conv=>cbv
 refine⟨(by subst hO;exact Nat.le_refl _),?_⟩
 rw [b]
 exact (.inr (.inr (.inl ⟨y1,y2,y3,y4,nilE,_,⟨rfl,(by subst hO;rfl),(by subst hO;rfl)⟩,h⟩)))
 obtain⟨y1,y2,y3,y4,y5,_,_,_,⟨rfl,rfl⟩,h⟩:=d
 conv=>cbv
 refine⟨(by subst hO;exact Nat.le_refl _),?_⟩
 refine⟨(by subst hO;exact Nat.le_refl _),?_⟩
 rw [b]
 exact (.inr (.inr (.inr ⟨y1,y2,y3,y4,y5,_,⟨(by subst hO;rfl),(by subst hO;rfl)⟩,h⟩)))
theorem d_p78 (fu:Nat){K0:Int→Int→EL→Prop}(L:EL→Nat)(hN:L=List.length){x0 x1:Int}{x2:EL}(h:p78 False fu K0 x0 x1 x2):Den Try.prog G0 78 [.agg [.c (.v (.int .i64 x0)),.c (.v (.int .i64 x1)),.c (.sl 3 x2 none)]] (fun r bs=>(∃ (y0 y1:Int) (y2:EL) (o0:OV),(r=.agg [.c (.v (.int .i64 y0)),.c (.v (.int .i64 y1)),.c (.sl 3 y2 none)]∧bs=[o0])∧K0 y0 y1 y2)):=by
 obtain⟨O,hO⟩:∃ O,O=std 0 T G0 (Den Try.prog G0):=⟨_,rfl⟩
 have hLO:L=O.len:=by rw [hN,hO];rfl
 subst hLO
 refine den_h hO tiA mixed tabOk (fn:=Try.f78) (sh:=true) (by kernel_rfl) rfl rfl rfl rfl ?_
 intro Q b
 unfold p78 at h
 conv=>cbv
 refine z0c hO [.shut] (d_p101 fu O.len hN h) ?_
 intro e Q a b
 conv=>cbv
 refine⟨by subst a hO;rfl,?_⟩
 intro r bs d
 rw [b] at d
 clear a b h
 obtain⟨y1,y2,y3,_,⟨rfl,rfl⟩,h⟩:=d
 conv=>cbv
 refine z0t hO h (fun g=>(by subst hO;exact g)) (fun h=>?_)
 conv=>cbv
 rw [b]
 exact⟨1,0,List.take 1 [[(CV.v (.int .i64 y1)),(CV.v (.int .i64 y2)),(CV.sl 3 y3 none)]],_,⟨(by subst hO;rfl),(by subst hO;rfl)⟩,h⟩
theorem d_p79 (fu:Nat){K0:Int→Int→EL→Prop}(L:EL→Nat)(hN:L=List.length){x0 x1:Int}{x2:EL}{x3 x4:Int}{x5:EL}(h:p79 False fu K0 x0 x1 x2 x3 x4 x5):Den Try.prog G0 79 [.agg [.c (.v (.int .i64 x0)),.c (.v (.int .i64 x1)),.c (.sl 3 x2 none)],.agg [.c (.v (.int .i64 x3)),.c (.v (.int .i64 x4)),.c (.sl 3 x5 none)]] (fun r bs=>(∃ (y0 y1:Int) (y2:EL) (o0 o1:OV),(r=.agg [.c (.v (.int .i64 y0)),.c (.v (.int .i64 y1)),.c (.sl 3 y2 none)]∧bs=[o0,o1])∧K0 y0 y1 y2)):=by
 obtain⟨O,hO⟩:∃ O,O=std 0 T G0 (Den Try.prog G0):=⟨_,rfl⟩
 have hLO:L=O.len:=by rw [hN,hO];rfl
 subst hLO
 refine den_h hO tiA mixed tabOk (fn:=Try.f79) (sh:=true) (by kernel_rfl) rfl rfl rfl rfl ?_
 intro Q b
 unfold p79 at h
 conv=>cbv
 refine z0h hO tiA [[],[],[],[],[]] [(0,true,false),(2,true,false),(1,false,false),(3,false,true),(4,false,true),(5,true,true),(6,false,true)] (by kernel_rfl) ?_
 conv=>cbv
 refine z0c hO [.shut] (d_p101 fu O.len hN h) ?_
 intro e Q a b
 conv=>cbv
 refine⟨by subst a hO;rfl,?_⟩
 intro r bs d
 rw [b] at d
 clear a b h
 obtain⟨y1,y2,y3,_,⟨rfl,rfl⟩,h⟩:=d
 conv=>cbv
 refine agr hO rfl rfl ?_
 refine z0c hO [.shut] (d_p101 fu O.len hN h) ?_
 intro e Q a b
 conv=>cbv
 refine⟨by subst a hO;rfl,?_⟩
 intro r bs d
 rw [b] at d
 clear a b h
 obtain⟨y4,y5,y6,_,⟨rfl,rfl⟩,h⟩:=d
 conv=>cbv
 refine z0b hO ?_
 conv=>cbv
 refine z0t hO h (fun g=>(by subst hO;exact g)) (fun h=>?_)
 conv=>cbv
 rw [b]
 exact⟨2,0,List.take 2 [[(CV.v (.int .i64 y1)),(CV.v (.int .i64 y2)),(CV.sl 3 y3 none)],[(CV.v (.int .i64 y4)),(CV.v (.int .i64 y5)),(CV.sl 3 y6 none)]],_,_,⟨(by subst hO;rfl),(by subst hO;rfl)⟩,h⟩
theorem d_p80 (fu:Nat){K0:Int→Int→EL→Prop}(L:EL→Nat)(hN:L=List.length){x0 x1:Int}{x2:EL}{x3 x4:Int}{x5:EL}(h:p80 False fu K0 x0 x1 x2 x3 x4 x5):Den Try.prog G0 80 [.agg [.c (.v (.int .i64 x0)),.c (.v (.int .i64 x1)),.c (.sl 3 x2 none)],.agg [.c (.v (.int .i64 x3)),.c (.v (.int .i64 x4)),.c (.sl 3 x5 none)]] (fun r bs=>(∃ (y0 y1:Int) (y2:EL) (o0 o1:OV),(r=.agg [.c (.v (.int .i64 y0)),.c (.v (.int .i64 y1)),.c (.sl 3 y2 none)]∧bs=[o0,o1])∧K0 y0 y1 y2)):=by
 obtain⟨O,hO⟩:∃ O,O=std 0 T G0 (Den Try.prog G0):=⟨_,rfl⟩
 have hLO:L=O.len:=by rw [hN,hO];rfl
 subst hLO
 refine den_h hO tiA mixed tabOk (fn:=Try.f80) (sh:=true) (by kernel_rfl) rfl rfl rfl rfl ?_
 intro Q b
 unfold p80 at h
 conv=>cbv
 refine z0h hO tiA [[],[],[],[],[]] [(0,true,false),(2,true,false),(1,false,false),(3,false,true),(4,false,true),(5,true,true),(6,false,true)] (by kernel_rfl) ?_
 conv=>cbv
 refine z0c hO [.shut] (d_p101 fu O.len hN h) ?_
 intro e Q a b
 conv=>cbv
 refine⟨by subst a hO;rfl,?_⟩
 intro r bs d
 rw [b] at d
 clear a b h
 obtain⟨y1,y2,y3,_,⟨rfl,rfl⟩,h⟩:=d
 conv=>cbv
 refine agr hO rfl rfl ?_
 refine z0c hO [.shut] (d_p101 fu O.len hN h) ?_
 intro e Q a b
 conv=>cbv
 refine⟨by subst a hO;rfl,?_⟩
 intro r bs d
 rw [b] at d
 clear a b h
 obtain⟨y4,y5,y6,_,⟨rfl,rfl⟩,h⟩:=d
 conv=>cbv
 refine z0b hO ?_
 conv=>cbv
 refine z0t hO h (fun g=>(by subst hO;exact g)) (fun h=>?_)
 conv=>cbv
 rw [b]
 exact⟨3,0,List.take 2 [[(CV.v (.int .i64 y1)),(CV.v (.int .i64 y2)),(CV.sl 3 y3 none)],[(CV.v (.int .i64 y4)),(CV.v (.int .i64 y5)),(CV.sl 3 y6 none)]],_,_,⟨(by subst hO;rfl),(by subst hO;rfl)⟩,h⟩
theorem d_p81 (fu:Nat){K0:Int→Int→EL→Prop}(L:EL→Nat)(hN:L=List.length){x0:Int}(h:p81 False fu K0 x0):Den Try.prog G0 81 [.c (.v (.int .i64 x0))] (fun r bs=>(∃ (y0 y1:Int) (y2:EL) (o0:OV),(r=.agg [.c (.v (.int .i64 y0)),.c (.v (.int .i64 y1)),.c (.sl 3 y2 none)]∧bs=[o0])∧K0 y0 y1 y2)):=by
 obtain⟨O,hO⟩:∃ O,O=std 0 T G0 (Den Try.prog G0):=⟨_,rfl⟩
 have hLO:L=O.len:=by rw [hN,hO];rfl
 subst hLO
 refine den_h hO tiA mixed tabOk (fn:=Try.f81) (sh:=true) (by kernel_rfl) rfl rfl rfl rfl ?_
 intro Q b
 unfold p81 at h
 conv=>cbv
 rw [b]
 exact⟨4,x0,nilE,_,⟨(by subst hO;rfl),(by subst hO;rfl)⟩,h⟩
def D_p39 (fu:Nat):Prop:=∀ {K0:Int→Int→EL→EL→Int→Prop} (L:EL→Nat) (_:L=List.length) {x0:EL} {x1 x2:Int} (_:p39 False fu K0 x0 x1 x2),Den Try.prog G0 39 [.ptr [.c (.sl 1 x0 none),.c (.v (.int .i64 x1))],.c (.v (.int .i64 x2))] (fun r bs=>(∃ (y0 y1:Int) (y2 y3:EL) (y4:Int) (o1:OV),(r=.agg [.c (.v (.int .i64 y0)),.c (.v (.int .i64 y1)),.c (.sl 3 y2 none)]∧bs=[.ptr [.c (.sl 1 y3 none),.c (.v (.int .i64 y4))],o1])∧K0 y0 y1 y2 y3 y4))
theorem b_p39 (fu:Nat)(ih_p39:D_p39 fu){K0:Int→Int→EL→EL→Int→Prop}(L:EL→Nat)(hN:L=List.length){x0:EL}{x1 x2:Int}(h:p39_b False fu (p39 False fu) K0 x0 x1 x2):Den Try.prog G0 39 [.ptr [.c (.sl 1 x0 none),.c (.v (.int .i64 x1))],.c (.v (.int .i64 x2))] (fun r bs=>(∃ (y0 y1:Int) (y2 y3:EL) (y4:Int) (o1:OV),(r=.agg [.c (.v (.int .i64 y0)),.c (.v (.int .i64 y1)),.c (.sl 3 y2 none)]∧bs=[.ptr [.c (.sl 1 y3 none),.c (.v (.int .i64 y4))],o1])∧K0 y0 y1 y2 y3 y4)):=by
 obtain⟨O,hO⟩:∃ O,O=std 1 T G0 (Den Try.prog G0):=⟨_,rfl⟩
 have hLO:L=O.len:=by rw [hN,hO];rfl
 subst hLO
 refine den_h hO tiA mixed tabOk (fn:=Try.f39) (sh:=true) (by kernel_rfl) rfl rfl rfl rfl ?_
 intro Q b
 unfold p39_b at h
 conv=>cbv
 refine z0c hO [.ref 2,.shut] (d_p52 fu O.len hN h) ?_
 intro e Q a b
 conv=>cbv
 refine⟨by subst a hO;rfl,?_⟩
 intro r bs d
 rw [b] at d
 clear a b h
 obtain⟨y1,y2,y3,_,⟨rfl,rfl⟩,h⟩:=d
 conv=>cbv
 refine br_h hO h (by subst hO;rfl) (fun k1 h=>?_) (fun k1 h=>?_)
 conv=>cbv
 refine z0c hO [.ref 2,.shut] (ih_p39 O.len hN h) ?_
 intro e Q a b
 conv=>cbv
 refine⟨by subst a hO;rfl,?_⟩
 intro r bs d
 rw [b] at d
 clear a b h
 obtain⟨y4,y5,y6,y7,y8,_,⟨rfl,rfl⟩,h⟩:=d
 conv=>cbv
 refine z0c hO [.shut] (d_p78 fu O.len hN h) ?_
 intro e Q a b
 conv=>cbv
 refine⟨by subst a hO;rfl,?_⟩
 intro r bs d
 rw [b] at d
 clear a b h
 obtain⟨y9,y10,y11,_,⟨rfl,rfl⟩,h⟩:=d
 conv=>cbv
 rw [b]
 exact⟨y9,y10,y11,y7,y8,_,⟨(by subst hO;rfl),(by subst hO;rfl)⟩,h⟩
 conv=>cbv
 refine br_h hO h (by subst hO;rfl) (fun k2 h=>?_) (fun k2 h=>?_)
 conv=>cbv
 refine z0c hO [.ref 2,.shut] (ih_p39 O.len hN h) ?_
 intro e Q a b
 conv=>cbv
 refine⟨by subst a hO;rfl,?_⟩
 intro r bs d
 rw [b] at d
 clear a b h
 obtain⟨y12,y13,y14,y15,y16,_,⟨rfl,rfl⟩,h⟩:=d
 conv=>cbv
 refine z0h hO tiA [[0],[],[],[]] [(0,true,false),(1,true,false),(2,true,false),(3,false,false),(4,false,true),(5,false,true)] (by kernel_rfl) ?_
 conv=>cbv
 refine z0c hO [.ref 2,.shut] (ih_p39 O.len hN h) ?_
 intro e Q a b
 conv=>cbv
 refine⟨by subst a hO;rfl,?_⟩
 intro r bs d
 rw [b] at d
 clear a b h
 obtain⟨y17,y18,y19,y20,y21,_,⟨rfl,rfl⟩,h⟩:=d
 conv=>cbv
 refine agr hO rfl rfl ?_
 refine z0c hO [.shut,.shut] (d_p79 fu O.len hN h) ?_
 intro e Q a b
 conv=>cbv
 refine⟨by subst a hO;rfl,?_⟩
 intro r bs d
 rw [b] at d
 clear a b h
 obtain⟨y22,y23,y24,_,_,⟨rfl,rfl⟩,h⟩:=d
 conv=>cbv
 refine z0b hO ?_
 conv=>cbv
 rw [b]
 exact⟨y22,y23,y24,y20,y21,_,⟨(by subst hO;rfl),(by subst hO;rfl)⟩,h⟩
 conv=>cbv
 refine br_h hO h (by subst hO;rfl) (fun k3 h=>?_) (fun k3 h=>?_)
 conv=>cbv
 refine z0c hO [.ref 2,.shut] (ih_p39 O.len hN h) ?_
 intro e Q a b
 conv=>cbv
 refine⟨by subst a hO;rfl,?_⟩
 intro r bs d
 rw [b] at d
 clear a b h
 obtain⟨y25,y26,y27,y28,y29,_,⟨rfl,rfl⟩,h⟩:=d
 conv=>cbv
 refine z0h hO tiA [[0],[],[],[]] [(0,true,false),(1,true,false),(2,true,false),(3,false,false),(4,false,true),(5,false,true)] (by kernel_rfl) ?_
 conv=>cbv
 refine z0c hO [.ref 2,.shut] (ih_p39 O.len hN h) ?_
 intro e Q a b
 conv=>cbv
 refine⟨by subst a hO;rfl,?_⟩
 intro r bs d
 rw [b] at d
 clear a b h
 obtain⟨y30,y31,y32,y33,y34,_,⟨rfl,rfl⟩,h⟩:=d
 conv=>cbv
 refine agr hO rfl rfl ?_
 refine z0c hO [.shut,.shut] (d_p80 fu O.len hN h) ?_
 intro e Q a b
 conv=>cbv
 refine⟨by subst a hO;rfl,?_⟩
 intro r bs d
 rw [b] at d
 clear a b h
 obtain⟨y35,y36,y37,_,_,⟨rfl,rfl⟩,h⟩:=d
 conv=>cbv
 refine z0b hO ?_
 conv=>cbv
 rw [b]
 exact⟨y35,y36,y37,y33,y34,_,⟨(by subst hO;rfl),(by subst hO;rfl)⟩,h⟩
 conv=>cbv
 refine z0f hO tiA h (by subst hO;rfl) [0,1,4,35] [0,5000] [] (fun tm m=>∃ (j38:Bool),((tm=frame 0 45 [(0,.p 0 0 0),(1,.c (.v (.int .i64 x2))),(4,.p 5000 1 0),(35,.c (.v (.bool j38)))]∧m=⟨[(0,.blk 0 [.c (.sl 1 y2 none),.c (.v (.int .i64 y3))]),(5000,.blk 1 [.c (.v (.int .i64 0)),.c (.v (.int .i64 0)),.c (.sl 3 [] (some []))])],2⟩))∧p39_2 False fu (p39 False fu) K0 x2 y2 y3 j38) (fun k6 h L hL_2=>?_) (fun k6 h L hL_2=>?_) ?_
 conv=>cbv
 exact hL_2 _ _ ⟨(z0a .eql y1 4),⟨(by (conv=>lhs;cbv)<;>(subst hO;rfl)),(by (conv=>lhs;cbv)<;>(subst hO;rfl))⟩,h⟩
 conv=>cbv
 exact hL_2 _ _ ⟨(z0a .eql y1 5),⟨(by (conv=>lhs;cbv)<;>(subst hO;rfl)),(by (conv=>lhs;cbv)<;>(subst hO;rfl))⟩,h⟩
 rintro tm m ⟨j38,hs,h⟩
 unfold p39_2 at h
 obtain⟨rfl,rfl⟩:=hs
 conv=>cbv
 refine z0f hO tiA h (by subst hO;rfl) [4] [0,5000] [] (fun tm m=>∃ (_:Unit),((tm=frame 0 45 [(4,.p 5000 1 0)]∧m=⟨[(0,.blk 0 [.c (.sl 1 y2 none),.c (.v (.int .i64 y3))]),(5000,.blk 1 [.c (.v (.int .i64 0)),.c (.v (.int .i64 0)),.c (.sl 3 [] (some []))])],2⟩))∧p39_1 False fu (p39 False fu) K0 y2 y3 ) (fun k4 h L hL_1=>?_) (fun k4 h L hL_1=>?_) ?_
 conv=>cbv
 refine br_h hO h (by subst hO;rfl) (fun k5 h=>?_) (fun k5 h=>?_)
 conv=>cbv
 refine z0c hO [.ref 2,.shut] (d_p52 fu O.len hN h) ?_
 intro e Q a b
 conv=>cbv
 refine⟨by subst a hO;rfl,?_⟩
 intro r bs d
 rw [b] at d
 clear a b h
 obtain⟨y42,y43,y44,_,⟨rfl,rfl⟩,h⟩:=d
 conv=>cbv
 refine z0c hO [.shut] (d_p81 fu O.len hN h) ?_
 intro e Q a b
 conv=>cbv
 refine⟨by subst a hO;rfl,?_⟩
 intro r bs d
 rw [b] at d
 clear a b h
 obtain⟨y45,y46,y47,_,⟨rfl,rfl⟩,h⟩:=d
 conv=>cbv
 rw [b]
 exact⟨y45,y46,y47,y43,y44,_,⟨(by subst hO;rfl),(by subst hO;rfl)⟩,h⟩
 conv=>cbv
 refine z0b hO ?_
 conv=>cbv
 exact hL_1 _ _ ⟨(),⟨(by (conv=>lhs;cbv)<;>(subst hO;rfl)),(by (conv=>lhs;cbv)<;>(subst hO;rfl))⟩,h⟩
 conv=>cbv
 exact hL_1 _ _ ⟨(),⟨(by (conv=>lhs;cbv)<;>(subst hO;rfl)),(by (conv=>lhs;cbv)<;>(subst hO;rfl))⟩,h⟩
 rintro tm m ⟨_,hs,h⟩
 unfold p39_1 at h
 obtain⟨rfl,rfl⟩:=hs
 conv=>cbv
 refine z0b hO ?_
 conv=>cbv
 refine z0b hO ?_
 conv=>cbv
 refine z0b hO ?_
 conv=>cbv
 refine z0c hO [] (d_p50 fu O.len hN h) ?_
 intro e Q a b
 conv=>cbv
 refine⟨by subst a hO;rfl,?_⟩
 intro r bs d
 rw [b] at d
 clear a b h
 obtain⟨y39,y40,y41,⟨rfl,rfl⟩,h⟩:=d
 conv=>cbv
 rw [b]
 exact⟨y39,y40,y41,y2,y3,_,⟨(by subst hO;rfl),(by subst hO;rfl)⟩,h⟩
theorem dd_p39 (fu:Nat):D_p39 fu:=by
 induction fu with
 | zero=>unfold D_p39;intros;rename_i h;rw [p39] at h;exact h.elim
 | succ n ih =>
  exact (by unfold D_p39;intro K0 L hN x0 x1 x2 h;exact b_p39 n ih L hN (by rw [p39] at h;exact h))
theorem d_p39 (fu:Nat):D_p39 fu:=dd_p39 fu
theorem d_p107 (fu:Nat){K0:Int→Int→ByteArray→EL→EL→Prop}(L:EL→Nat)(hN:L=List.length){x0:ByteArray}{x1:EL}(h:p107 False fu K0 x0 x1):Den Try.prog G0 107 [.c (.v (.string x0)),.c (.sl 3 x1 none)] (fun r bs=>(∃ (y0 y1:Int) (y2:ByteArray) (y3 y4:EL) (o0 o1:OV),(r=.agg [.c (.v (.int .i64 y0)),.c (.v (.int .i64 y1)),.c (.v (.string y2)),.c (.sl 3 y3 none),.c (.sl 5 y4 none)]∧bs=[o0,o1])∧K0 y0 y1 y2 y3 y4)):=by
 obtain⟨O,hO⟩:∃ O,O=std 0 T G0 (Den Try.prog G0):=⟨_,rfl⟩
 have hLO:L=O.len:=by rw [hN,hO];rfl
 subst hLO
 refine den_h hO tiA mixed tabOk (fn:=Try.f107) (sh:=true) (by kernel_rfl) rfl rfl rfl rfl ?_
 intro Q b
 unfold p107 at h
 conv=>cbv
 refine z0c hO [.shut] (d_p135 fu O.len hN h) ?_
 intro e Q a b
 conv=>cbv
 refine⟨by subst a hO;rfl,?_⟩
 intro r bs d
 rw [b] at d
 clear a b h
 rcases d with d | d
 obtain⟨y1,y2,y3,y4,y5,_,⟨rfl,rfl,rfl,rfl⟩,h⟩:=d
 conv=>cbv
 rw [b]
 exact⟨y1,y2,y3,nilE,nilE,_,_,⟨(by subst hO;rfl),(by subst hO;rfl)⟩,h⟩
 obtain⟨y1,y2,y3,y4,y5,_,⟨rfl,rfl,rfl⟩,h⟩:=d
 conv=>cbv
 refine z0o hO ?_
 conv=>cbv
 rw [b]
 exact⟨y1,y2,y3,y4,nilE,_,_,⟨(by subst hO;rfl),(by subst hO;rfl)⟩,h⟩
end Go.Proofs.Ythncmjlcmlmnmaa
