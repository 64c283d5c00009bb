/- A part of the proof. Conditions: none. -/
import Derived.Test.YtioiigabeoaneaaRQ8
import Derived.Test.YtioiigabeoaneaaRQ6
import Derived.Test.YtioiigabeoaneaaRQ11
import Derived.Test.YtioiigabeoaneaaRQ7
import Derived.Test.YtioiigabeoaneaaRQ5
namespace Go.Proofs.Ytioiigabeoaneaa
open Go V
set_option maxRecDepth 100000
set_option maxHeartbeats 4000000
def D_p49 (fu:Nat):Prop:=∀ {K0:Int→Int→ByteArray→EL→EL→EL→Int→Int→Int→Prop} (L:EL→Nat) (_:L=List.length) {x0:EL} {x1 x2 x3 x4:Int} (_:p49 False fu K0 x0 x1 x2 x3 x4),Den Try.prog G0 49 [.ptr [.c (.sl 1 x0 none),.c (.v (.int .i64 x1)),.c (.v (.int .i64 x2))],.c (.v (.int .i64 x3)),.ptr [.c (.v (.int .i64 x4))]] (fun r bs=>(∃ (y0 y1:Int) (y2:ByteArray) (y3 y4 y5:EL) (y6 y7 y8:Int) (o1:OV),(r=.agg [.c (.v (.int .i64 y0)),.c (.v (.int .i64 y1)),.c (.v (.string y2)),.c (.sl 3 y3 none),.c (.sl 5 y4 none)]∧bs=[.ptr [.c (.sl 1 y5 none),.c (.v (.int .i64 y6)),.c (.v (.int .i64 y7))],o1,.ptr [.c (.v (.int .i64 y8))]])∧K0 y0 y1 y2 y3 y4 y5 y6 y7 y8))
theorem b_p49 (fu:Nat)(ih_p49:D_p49 fu){K0:Int→Int→ByteArray→EL→EL→EL→Int→Int→Int→Prop}(L:EL→Nat)(hN:L=List.length){x0:EL}{x1 x2 x3 x4:Int}(h:p49_b False fu (p49 False fu) K0 x0 x1 x2 x3 x4):Den Try.prog G0 49 [.ptr [.c (.sl 1 x0 none),.c (.v (.int .i64 x1)),.c (.v (.int .i64 x2))],.c (.v (.int .i64 x3)),.ptr [.c (.v (.int .i64 x4))]] (fun r bs=>(∃ (y0 y1:Int) (y2:ByteArray) (y3 y4 y5:EL) (y6 y7 y8:Int) (o1:OV),(r=.agg [.c (.v (.int .i64 y0)),.c (.v (.int .i64 y1)),.c (.v (.string y2)),.c (.sl 3 y3 none),.c (.sl 5 y4 none)]∧bs=[.ptr [.c (.sl 1 y5 none),.c (.v (.int .i64 y6)),.c (.v (.int .i64 y7))],o1,.ptr [.c (.v (.int .i64 y8))]])∧K0 y0 y1 y2 y3 y4 y5 y6 y7 y8)):=by
 obtain⟨O,hO⟩:∃ O,O=std 2 T G0 (Den Try.prog G0):=⟨_,rfl⟩
 have hLO:L=O.len:=by rw [hN,hO];rfl
 subst hLO
 refine den_h hO tiA mixed tabOk (fn:=Try.f49) (sh:=true) (by kernel_rfl) rfl rfl rfl rfl ?_
 intro Q b
 unfold p49_b at h
 conv=>cbv
 refine z0e hO tiA h (by subst hO;rfl) [0,1,2,6] [0,1,7000] [] (fun tm m=>∃ (j1:EL) (j2:Int) (j3:Int),((tm=frame 0 104 [(0,.p 0 0 0),(1,.c (.v (.int .i64 x3))),(2,.p 1 1 0),(6,.p 7000 2 0)]∧m=⟨[(0,.blk 0 [.c (.sl 1 j1 none),.c (.v (.int .i64 j2)),.c (.v (.int .i64 j3))]),(1,.blk 1 [.c (.v (.int .i64 x4))]),(7000,.blk 2 [.c (.v (.int .i64 0)),.c (.v (.int .i64 0)),.c (.v (.string ⟨#[]⟩)),.c (.sl 3 [] (some [])),.c (.sl 5 [] (some []))])],3⟩))∧p49_12 False fu (p49 False fu) K0 x3 x4 j1 j2 j3) (fun k15 h L hL_12=>?_) (fun k15 h L hL_12=>?_) ?_
 conv=>cbv
 refine z0d hO [.ref 3,.shut] (d_p46 fu O.len hN h) ?_
 intro e Q a b
 conv=>cbv
 refine⟨by subst a hO;rfl,?_⟩
 intro r bs d
 rw [b] at d
 clear a b h
 obtain⟨y109,y110,y111,_,⟨rfl,rfl⟩,h⟩:=d
 conv=>cbv
 exact hL_12 _ _ ⟨y109,y110,y111,⟨(by (conv=>lhs;cbv)<;>(subst hO;rfl)),(by (conv=>lhs;cbv)<;>(subst hO;rfl))⟩,h⟩
 conv=>cbv
 exact hL_12 _ _ ⟨x0,x1,x2,⟨(by (conv=>lhs;cbv)<;>(subst hO;rfl)),(by (conv=>lhs;cbv)<;>(subst hO;rfl))⟩,h⟩
 rintro tm m ⟨j1,j2,j3,hs,h⟩
 unfold p49_12 at h
 obtain⟨rfl,rfl⟩:=hs
 conv=>cbv
 refine z0e hO tiA h (by subst hO;rfl) [0,1,2,6] [0,1,7000] [] (fun tm m=>∃ (j4:EL) (j5:Int) (j6:Int),((tm=frame 0 104 [(0,.p 0 0 0),(1,.c (.v (.int .i64 x3))),(2,.p 1 1 0),(6,.p 7000 2 0)]∧m=⟨[(0,.blk 0 [.c (.sl 1 j4 none),.c (.v (.int .i64 j5)),.c (.v (.int .i64 j6))]),(1,.blk 1 [.c (.v (.int .i64 x4))]),(7000,.blk 2 [.c (.v (.int .i64 0)),.c (.v (.int .i64 0)),.c (.v (.string ⟨#[]⟩)),.c (.sl 3 [] (some [])),.c (.sl 5 [] (some []))])],3⟩))∧p49_11 False fu (p49 False fu) K0 x3 x4 j4 j5 j6) (fun k14 h L hL_11=>?_) (fun k14 h L hL_11=>?_) ?_
 conv=>cbv
 refine z0d hO [.ref 3,.shut] (d_p46 fu O.len hN h) ?_
 intro e Q a b
 conv=>cbv
 refine⟨by subst a hO;rfl,?_⟩
 intro r bs d
 rw [b] at d
 clear a b h
 obtain⟨y106,y107,y108,_,⟨rfl,rfl⟩,h⟩:=d
 conv=>cbv
 exact hL_11 _ _ ⟨y106,y107,y108,⟨(by (conv=>lhs;cbv)<;>(subst hO;rfl)),(by (conv=>lhs;cbv)<;>(subst hO;rfl))⟩,h⟩
 conv=>cbv
 exact hL_11 _ _ ⟨j1,j2,j3,⟨(by (conv=>lhs;cbv)<;>(subst hO;rfl)),(by (conv=>lhs;cbv)<;>(subst hO;rfl))⟩,h⟩
 rintro tm m ⟨j4,j5,j6,hs,h⟩
 unfold p49_11 at h
 obtain⟨rfl,rfl⟩:=hs
 conv=>cbv
 refine z0d hO [.ref 3,.shut,.shut] (d_p48 fu O.len hN h) ?_
 intro e Q a b
 conv=>cbv
 refine⟨by subst a hO;rfl,?_⟩
 intro r bs d
 rw [b] at d
 clear a b h
 obtain⟨y7,y8,y9,y10,_,_,⟨rfl,rfl⟩,h⟩:=d
 conv=>cbv
 refine br_h hO h (by subst hO;rfl) (fun k1 h=>?_) (fun k1 h=>?_)
 conv=>cbv
 rw [b]
 exact⟨y7,0,⟨#[]⟩,nilE,nilE,y8,y9,y10,z0c .sub .i64 x4 1,_,⟨(by subst hO;rfl),(by subst hO;rfl)⟩,h⟩
 conv=>cbv
 refine z0b hO ?_
 conv=>cbv
 refine br_h hO h (by subst hO;rfl) (fun k2 h=>?_) (fun k2 h=>?_)
 conv=>cbv
 refine z0d hO [.ref 3] (d_p23 fu O.len hN h) ?_
 intro e Q a b
 conv=>cbv
 refine⟨by subst a hO;rfl,?_⟩
 intro r bs d
 rw [b] at d
 clear a b h
 obtain⟨y11,y12,y13,y14,⟨rfl,rfl⟩,h⟩:=d
 conv=>cbv
 refine z0b hO ?_
 conv=>cbv
 refine z0r hO tiA [0,1,2,6,7,10] [0,1,7000,8000,102000] [] (fun (n:Nat) tm m=>∃ (z15:EL) (z16:Int) (z17:Int) (z18:Int) (z19:EL) (z20:Int),((z19=[]∧tm=frame 0 104 [(0,.p 0 0 0),(1,.c (.v (.int .i64 x3))),(2,.p 1 1 0),(6,.p 7000 2 0),(7,.p 8000 2 0),(10,.c (.v (.int .i64 z20)))]∧m=⟨[(0,.blk 0 [.c (.sl 1 z15 none),.c (.v (.int .i64 z16)),.c (.v (.int .i64 z17))]),(1,.blk 1 [.c (.v (.int .i64 z18))]),(7000,.blk 2 [.c (.v (.int .i64 0)),.c (.v (.int .i64 0)),.c (.v (.string ⟨#[]⟩)),.c (.sl 3 [] (some [])),.c (.sl 5 [] (some []))]),(8000,.blk 2 [.c (.v (.int .i64 y7)),.c (.v (.int .i64 y11)),.c (.v (.string ⟨#[]⟩)),.c (.sl 3 [] (some [])),.c (.sl 5 [] (some []))])],3⟩)∨(tm=frame 0 104 [(0,.p 0 0 0),(1,.c (.v (.int .i64 x3))),(2,.p 1 1 0),(6,.p 7000 2 0),(7,.p 8000 2 0),(10,.c (.v (.int .i64 z20)))]∧m=⟨[(0,.blk 0 [.c (.sl 1 z15 none),.c (.v (.int .i64 z16)),.c (.v (.int .i64 z17))]),(1,.blk 1 [.c (.v (.int .i64 z18))]),(7000,.blk 2 [.c (.v (.int .i64 0)),.c (.v (.int .i64 0)),.c (.v (.string ⟨#[]⟩)),.c (.sl 3 [] (some [])),.c (.sl 5 [] (some []))]),(8000,.blk 2 [.c (.v (.int .i64 y7)),.c (.v (.int .i64 y11)),.c (.v (.string ⟨#[]⟩)),.c (.sl 3 [] (some [])),.t 102000 2 (O.len z19)]),(102000,.arr 2 5 z19 none false)],3⟩))∧p49_2L False fu (p49 False fu) K0 x3 y7 y11 n z15 z16 z17 z18 z19 z20) (fun n=>n) fu ⟨y12,y13,y14,z0c .sub .i64 x4 1,nilE,0,(.inl ⟨rfl,(by (conv=>lhs;cbv)<;>(subst hO;rfl)),(by (conv=>lhs;cbv)<;>(subst hO;rfl))⟩),h⟩ ?_
 rintro n1 tm m L ⟨z15,z16,z17,z18,z19,z20,hs,h⟩ hLn1
 (cases n1 with
 | zero=>rw [p49_2L] at h;exact h.elim
 | succ n1 =>
 rw [p49_2L] at h
 unfold p49_2 at h
 rcases hs with hs | hs
 obtain⟨rfl,rfl,rfl⟩:=hs
 conv=>cbv
 refine z0g hO tiA [0,1,2,6,7,10,90] [0,1,7000,8000] [] (fun tm m=>∃ (j21:Bool),((tm=frame 0 104 [(0,.p 0 0 0),(1,.c (.v (.int .i64 x3))),(2,.p 1 1 0),(6,.p 7000 2 0),(7,.p 8000 2 0),(10,.c (.v (.int .i64 z20))),(90,.c (.v (.bool j21)))]∧m=⟨[(0,.blk 0 [.c (.sl 1 z15 none),.c (.v (.int .i64 z16)),.c (.v (.int .i64 z17))]),(1,.blk 1 [.c (.v (.int .i64 z18))]),(7000,.blk 2 [.c (.v (.int .i64 0)),.c (.v (.int .i64 0)),.c (.v (.string ⟨#[]⟩)),.c (.sl 3 [] (some [])),.c (.sl 5 [] (some []))]),(8000,.blk 2 [.c (.v (.int .i64 y7)),.c (.v (.int .i64 y11)),.c (.v (.string ⟨#[]⟩)),.c (.sl 3 [] (some [])),.c (.sl 5 [] (some []))])],3⟩))∧p49_1 False fu (p49 False fu) K0 (p49_2L False fu (p49 False fu) K0 x3 y7 y11 n1) x3 y7 y11 z15 z16 z17 z18 nilE z20 j21) (fun L hL_1=>?_) ?_
 conv=>cbv
 refine z0d hO [.shut] (d_p64 fu O.len hN h) ?_
 intro e Q a b
 conv=>cbv
 refine⟨by subst a hO;rfl,?_⟩
 intro r bs d
 rw [b] at d
 clear a b h
 obtain⟨y31,_,⟨rfl,rfl⟩,h⟩:=d
 conv=>cbv
 refine br_h hO h (by subst hO;rfl) (fun k4 h=>?_) (fun k4 h=>?_)
 conv=>cbv
 refine br_t hO k4 ?_
 conv=>cbv
 refine br_t hO k4 ?_
 conv=>cbv
 refine br_t hO k4 ?_
 conv=>cbv
 refine br_t hO k4 ?_
 conv=>cbv
 refine br_t hO k4 ?_
 conv=>cbv
 exact hL_1 _ _ ⟨(z0a .eql z17 0),⟨(by (conv=>lhs;cbv)<;>(subst hO;rfl)),(by (conv=>lhs;cbv)<;>(subst hO;rfl))⟩,h⟩
 conv=>cbv
 refine br_f hO k4 ?_
 conv=>cbv
 refine br_f hO k4 ?_
 conv=>cbv
 refine br_f hO k4 ?_
 conv=>cbv
 refine br_f hO k4 ?_
 conv=>cbv
 refine br_f hO k4 ?_
 conv=>cbv
 exact hL_1 _ _ ⟨false,⟨(by (conv=>lhs;cbv)<;>(subst hO;rfl)),(by (conv=>lhs;cbv)<;>(subst hO;rfl))⟩,h⟩
 rintro tm m ⟨j21,hs,h⟩
 unfold p49_1 at h
 obtain⟨rfl,rfl⟩:=hs
 conv=>cbv
 refine br_h hO h (by subst hO;rfl) (fun k3 h=>?_) (fun k3 h=>?_)
 conv=>cbv
 refine z0b hO ?_
 conv=>cbv
 refine z0o hO tiA [[0,1],[],[],[],[]] [(0,true,false),(1,true,false),(2,true,false),(3,true,false),(4,true,false),(5,true,false),(6,false,false),(7,false,false),(8,false,true),(9,true,true),(10,false,true)] (by kernel_rfl) ?_
 conv=>cbv
 refine z0d hO [.ref 3,.shut,.ref 1] (ih_p49 O.len hN h) ?_
 intro e Q a b
 conv=>cbv
 refine⟨by subst a hO;rfl,?_⟩
 intro r bs d
 rw [b] at d
 clear a b h
 obtain⟨y22,y23,y24,y25,y26,y27,y28,y29,y30,_,⟨rfl,rfl⟩,h⟩:=d
 conv=>cbv
 refine agr hO rfl rfl ?_
 refine agr hO rfl rfl ?_
 refine z0z hO h (fun g=>(by subst hO;exact g)) (fun h=>?_)
 conv=>cbv
 refine and_h h (fun g=>(by subst hO;exact g)) (fun h=>?_)
 refine z2i hO (by subst hO;exact List.cons_ne_nil _ _) ?_
 conv=>cbv
 refine z0b hO ?_
 conv=>cbv
 exact hLn1 n1 _ _ (Nat.lt_succ_self n1) ⟨y27,y28,y29,y30,(nilE++(List.take 1 [[(CV.v (.int .i64 y22)),(CV.v (.int .i64 y23)),(CV.v (.string y24)),(CV.sl 3 y25 none),(CV.sl 5 y26 none)]])),z0c .add .i64 z20 1,(.inr ⟨(by (conv=>lhs;cbv)<;>(subst hO;rfl)),(by (conv=>lhs;cbv)<;>(subst hO;rfl))⟩),h⟩
 conv=>cbv
 rw [b]
 exact⟨y7,y11,⟨#[]⟩,nilE,nilE,z15,z16,z17,z18,_,⟨(by subst hO;rfl),(by subst hO;rfl)⟩,h⟩
 obtain⟨rfl,rfl⟩:=hs
 conv=>cbv
 refine z0g hO tiA [0,1,2,6,7,10,90] [0,1,7000,8000,102000] [] (fun tm m=>∃ (j21:Bool),((tm=frame 0 104 [(0,.p 0 0 0),(1,.c (.v (.int .i64 x3))),(2,.p 1 1 0),(6,.p 7000 2 0),(7,.p 8000 2 0),(10,.c (.v (.int .i64 z20))),(90,.c (.v (.bool j21)))]∧m=⟨[(0,.blk 0 [.c (.sl 1 z15 none),.c (.v (.int .i64 z16)),.c (.v (.int .i64 z17))]),(1,.blk 1 [.c (.v (.int .i64 z18))]),(7000,.blk 2 [.c (.v (.int .i64 0)),.c (.v (.int .i64 0)),.c (.v (.string ⟨#[]⟩)),.c (.sl 3 [] (some [])),.c (.sl 5 [] (some []))]),(8000,.blk 2 [.c (.v (.int .i64 y7)),.c (.v (.int .i64 y11)),.c (.v (.string ⟨#[]⟩)),.c (.sl 3 [] (some [])),.t 102000 2 (O.len z19)]),(102000,.arr 2 5 z19 none false)],3⟩))∧p49_1 False fu (p49 False fu) K0 (p49_2L False fu (p49 False fu) K0 x3 y7 y11 n1) x3 y7 y11 z15 z16 z17 z18 z19 z20 j21) (fun L hL_1=>?_) ?_
 conv=>cbv
 refine z0d hO [.shut] (d_p64 fu O.len hN h) ?_
 intro e Q a b
 conv=>cbv
 refine⟨by subst a hO;rfl,?_⟩
 intro r bs d
 rw [b] at d
 clear a b h
 obtain⟨y31,_,⟨rfl,rfl⟩,h⟩:=d
 conv=>cbv
 refine br_h hO h (by subst hO;rfl) (fun k4 h=>?_) (fun k4 h=>?_)
 conv=>cbv
 refine br_t hO k4 ?_
 conv=>cbv
 refine br_t hO k4 ?_
 conv=>cbv
 refine br_t hO k4 ?_
 conv=>cbv
 refine br_t hO k4 ?_
 conv=>cbv
 refine br_t hO k4 ?_
 conv=>cbv
 exact hL_1 _ _ ⟨(z0a .eql z17 0),⟨(by (conv=>lhs;cbv)<;>(subst hO;rfl)),(by (conv=>lhs;cbv)<;>(subst hO;rfl))⟩,h⟩
 conv=>cbv
 refine br_f hO k4 ?_
 conv=>cbv
 refine br_f hO k4 ?_
 conv=>cbv
 refine br_f hO k4 ?_
 conv=>cbv
 refine br_f hO k4 ?_
 conv=>cbv
 refine br_f hO k4 ?_
 conv=>cbv
 exact hL_1 _ _ ⟨false,⟨(by (conv=>lhs;cbv)<;>(subst hO;rfl)),(by (conv=>lhs;cbv)<;>(subst hO;rfl))⟩,h⟩
 rintro tm m ⟨j21,hs,h⟩
 unfold p49_1 at h
 obtain⟨rfl,rfl⟩:=hs
 conv=>cbv
 refine br_h hO h (by subst hO;rfl) (fun k3 h=>?_) (fun k3 h=>?_)
 conv=>cbv
 refine z0b hO ?_
 conv=>cbv
 refine z0o hO tiA [[0,1],[],[],[],[]] [(0,true,false),(1,true,false),(2,true,false),(3,true,false),(4,true,false),(5,true,false),(6,false,false),(7,false,false),(8,false,true),(9,true,true),(10,false,true)] (by kernel_rfl) ?_
 conv=>cbv
 refine z0d hO [.ref 3,.shut,.ref 1] (ih_p49 O.len hN h) ?_
 intro e Q a b
 conv=>cbv
 refine⟨by subst a hO;rfl,?_⟩
 intro r bs d
 rw [b] at d
 clear a b h
 obtain⟨y22,y23,y24,y25,y26,y27,y28,y29,y30,_,⟨rfl,rfl⟩,h⟩:=d
 conv=>cbv
 refine agr hO rfl rfl ?_
 refine agr hO rfl rfl ?_
 refine z0z hO h (fun g=>(by subst hO;exact g)) (fun h=>?_)
 conv=>cbv
 refine⟨(by subst hO;rfl),?_⟩
 refine and_h h (fun g=>(by subst hO;exact g)) (fun h=>?_)
 refine z0b hO ?_
 conv=>cbv
 exact hLn1 n1 _ _ (Nat.lt_succ_self n1) ⟨y27,y28,y29,y30,(z19++(List.take 1 [[(CV.v (.int .i64 y22)),(CV.v (.int .i64 y23)),(CV.v (.string y24)),(CV.sl 3 y25 none),(CV.sl 5 y26 none)]])),z0c .add .i64 z20 1,(.inr ⟨(by (conv=>lhs;cbv)<;>(subst hO;rfl)),(by (conv=>lhs;cbv)<;>(subst hO;rfl))⟩),h⟩
 conv=>cbv
 refine z0k hO ?_
 conv=>cbv
 rw [b]
 exact⟨y7,y11,⟨#[]⟩,nilE,z19,z15,z16,z17,z18,_,⟨(by subst hO;rfl),(by subst hO;rfl)⟩,h⟩)
 conv=>cbv
 refine br_h hO h (by subst hO;rfl) (fun k5 h=>?_) (fun k5 h=>?_)
 conv=>cbv
 refine z0d hO [.ref 3] (d_p63 fu O.len hN h) ?_
 intro e Q a b
 conv=>cbv
 refine⟨by subst a hO;rfl,?_⟩
 intro r bs d
 rw [b] at d
 clear a b h
 obtain⟨y32,y33,y34,y35,y36,y37,⟨rfl,rfl⟩,h⟩:=d
 conv=>cbv
 refine z0b hO ?_
 conv=>cbv
 refine z0b hO ?_
 conv=>cbv
 refine z0r hO tiA [0,1,2,6,7,10] [0,1,7000,8000,48000,102000] [] (fun (n:Nat) tm m=>∃ (z38:EL) (z39:Int) (z40:Int) (z41:Int) (z42:EL) (z43:EL) (z44:Int),((z43=[]∧tm=frame 0 104 [(0,.p 0 0 0),(1,.c (.v (.int .i64 x3))),(2,.p 1 1 0),(6,.p 7000 2 0),(7,.p 8000 2 0),(10,.c (.v (.int .i64 z44)))]∧m=⟨[(0,.blk 0 [.c (.sl 1 z38 none),.c (.v (.int .i64 z39)),.c (.v (.int .i64 z40))]),(1,.blk 1 [.c (.v (.int .i64 z41))]),(7000,.blk 2 [.c (.v (.int .i64 0)),.c (.v (.int .i64 0)),.c (.v (.string ⟨#[]⟩)),.c (.sl 3 [] (some [])),.c (.sl 5 [] (some []))]),(8000,.blk 2 [.c (.v (.int .i64 y7)),.c (.v (.int .i64 0)),.c (.v (.string ⟨#[]⟩)),.t 48000 2 1,.c (.sl 5 [] (some []))]),(48000,.arr 2 3 z42 (some 1) false)],3⟩)∨(tm=frame 0 104 [(0,.p 0 0 0),(1,.c (.v (.int .i64 x3))),(2,.p 1 1 0),(6,.p 7000 2 0),(7,.p 8000 2 0),(10,.c (.v (.int .i64 z44)))]∧m=⟨[(0,.blk 0 [.c (.sl 1 z38 none),.c (.v (.int .i64 z39)),.c (.v (.int .i64 z40))]),(1,.blk 1 [.c (.v (.int .i64 z41))]),(7000,.blk 2 [.c (.v (.int .i64 0)),.c (.v (.int .i64 0)),.c (.v (.string ⟨#[]⟩)),.c (.sl 3 [] (some [])),.c (.sl 5 [] (some []))]),(8000,.blk 2 [.c (.v (.int .i64 y7)),.c (.v (.int .i64 0)),.c (.v (.string ⟨#[]⟩)),.t 48000 2 1,.t 102000 2 (O.len z43)]),(48000,.arr 2 3 z42 (some 1) false),(102000,.arr 2 5 z43 none false)],3⟩))∧p49_4L False fu (p49 False fu) K0 x3 y7 n z38 z39 z40 z41 z42 z43 z44) (fun n=>n) fu ⟨y35,y36,y37,z0c .sub .i64 x4 1,[[(CV.v (.int .i64 y32)),(CV.v (.int .i64 y33)),(CV.sl 3 y34 none)]],nilE,0,(.inl ⟨rfl,(by (conv=>lhs;cbv)<;>(subst hO;rfl)),(by (conv=>lhs;cbv)<;>(subst hO;rfl))⟩),h⟩ ?_
 rintro n2 tm m L ⟨z38,z39,z40,z41,z42,z43,z44,hs,h⟩ hLn2
 (cases n2 with
 | zero=>rw [p49_4L] at h;exact h.elim
 | succ n2 =>
 rw [p49_4L] at h
 unfold p49_4 at h
 rcases hs with hs | hs
 obtain⟨rfl,rfl,rfl⟩:=hs
 conv=>cbv
 refine z0g hO tiA [0,1,2,6,7,10,90] [0,1,7000,8000,48000] [] (fun tm m=>∃ (j45:Bool),((tm=frame 0 104 [(0,.p 0 0 0),(1,.c (.v (.int .i64 x3))),(2,.p 1 1 0),(6,.p 7000 2 0),(7,.p 8000 2 0),(10,.c (.v (.int .i64 z44))),(90,.c (.v (.bool j45)))]∧m=⟨[(0,.blk 0 [.c (.sl 1 z38 none),.c (.v (.int .i64 z39)),.c (.v (.int .i64 z40))]),(1,.blk 1 [.c (.v (.int .i64 z41))]),(7000,.blk 2 [.c (.v (.int .i64 0)),.c (.v (.int .i64 0)),.c (.v (.string ⟨#[]⟩)),.c (.sl 3 [] (some [])),.c (.sl 5 [] (some []))]),(8000,.blk 2 [.c (.v (.int .i64 y7)),.c (.v (.int .i64 0)),.c (.v (.string ⟨#[]⟩)),.t 48000 2 1,.c (.sl 5 [] (some []))]),(48000,.arr 2 3 z42 (some 1) false)],3⟩))∧p49_3 False fu (p49 False fu) K0 (p49_4L False fu (p49 False fu) K0 x3 y7 n2) x3 y7 z38 z39 z40 z41 z42 nilE z44 j45) (fun L hL_3=>?_) ?_
 conv=>cbv
 refine z0d hO [.shut] (d_p64 fu O.len hN h) ?_
 intro e Q a b
 conv=>cbv
 refine⟨by subst a hO;rfl,?_⟩
 intro r bs d
 rw [b] at d
 clear a b h
 obtain⟨y55,_,⟨rfl,rfl⟩,h⟩:=d
 conv=>cbv
 refine br_h hO h (by subst hO;rfl) (fun k7 h=>?_) (fun k7 h=>?_)
 conv=>cbv
 refine br_t hO k7 ?_
 conv=>cbv
 refine br_t hO k7 ?_
 conv=>cbv
 refine br_t hO k7 ?_
 conv=>cbv
 refine br_t hO k7 ?_
 conv=>cbv
 refine br_t hO k7 ?_
 conv=>cbv
 exact hL_3 _ _ ⟨(z0a .eql z40 0),⟨(by (conv=>lhs;cbv)<;>(subst hO;rfl)),(by (conv=>lhs;cbv)<;>(subst hO;rfl))⟩,h⟩
 conv=>cbv
 refine br_f hO k7 ?_
 conv=>cbv
 refine br_f hO k7 ?_
 conv=>cbv
 refine br_f hO k7 ?_
 conv=>cbv
 refine br_f hO k7 ?_
 conv=>cbv
 refine br_f hO k7 ?_
 conv=>cbv
 exact hL_3 _ _ ⟨false,⟨(by (conv=>lhs;cbv)<;>(subst hO;rfl)),(by (conv=>lhs;cbv)<;>(subst hO;rfl))⟩,h⟩
 rintro tm m ⟨j45,hs,h⟩
 unfold p49_3 at h
 obtain⟨rfl,rfl⟩:=hs
 conv=>cbv
 refine br_h hO h (by subst hO;rfl) (fun k6 h=>?_) (fun k6 h=>?_)
 conv=>cbv
 refine z0b hO ?_
 conv=>cbv
 refine z0o hO tiA [[0,1],[],[],[],[]] [(0,true,false),(1,true,false),(2,true,false),(3,true,false),(4,true,false),(5,true,false),(6,false,false),(7,false,false),(8,false,true),(9,true,true),(10,false,true)] (by kernel_rfl) ?_
 conv=>cbv
 refine z0d hO [.ref 3,.shut,.ref 1] (ih_p49 O.len hN h) ?_
 intro e Q a b
 conv=>cbv
 refine⟨by subst a hO;rfl,?_⟩
 intro r bs d
 rw [b] at d
 clear a b h
 obtain⟨y46,y47,y48,y49,y50,y51,y52,y53,y54,_,⟨rfl,rfl⟩,h⟩:=d
 conv=>cbv
 refine agr hO rfl rfl ?_
 refine agr hO rfl rfl ?_
 refine z0z hO h (fun g=>(by subst hO;exact g)) (fun h=>?_)
 conv=>cbv
 refine and_h h (fun g=>(by subst hO;exact g)) (fun h=>?_)
 refine z2i hO (by subst hO;exact List.cons_ne_nil _ _) ?_
 conv=>cbv
 refine z0b hO ?_
 conv=>cbv
 exact hLn2 n2 _ _ (Nat.lt_succ_self n2) ⟨y51,y52,y53,y54,z42,(nilE++(List.take 1 [[(CV.v (.int .i64 y46)),(CV.v (.int .i64 y47)),(CV.v (.string y48)),(CV.sl 3 y49 none),(CV.sl 5 y50 none)]])),z0c .add .i64 z44 1,(.inr ⟨(by (conv=>lhs;cbv)<;>(subst hO;rfl)),(by (conv=>lhs;cbv)<;>(subst hO;rfl))⟩),h⟩
 conv=>cbv
 refine z0z hO h (fun g=>(by subst hO;exact g)) (fun h=>?_)
 conv=>cbv
 rw [b]
 exact⟨y7,0,⟨#[]⟩,List.take 1 z42,nilE,z38,z39,z40,z41,_,⟨(by subst hO;rfl),(by subst hO;rfl)⟩,h⟩
 obtain⟨rfl,rfl⟩:=hs
 conv=>cbv
 refine z0g hO tiA [0,1,2,6,7,10,90] [0,1,7000,8000,48000,102000] [] (fun tm m=>∃ (j45:Bool),((tm=frame 0 104 [(0,.p 0 0 0),(1,.c (.v (.int .i64 x3))),(2,.p 1 1 0),(6,.p 7000 2 0),(7,.p 8000 2 0),(10,.c (.v (.int .i64 z44))),(90,.c (.v (.bool j45)))]∧m=⟨[(0,.blk 0 [.c (.sl 1 z38 none),.c (.v (.int .i64 z39)),.c (.v (.int .i64 z40))]),(1,.blk 1 [.c (.v (.int .i64 z41))]),(7000,.blk 2 [.c (.v (.int .i64 0)),.c (.v (.int .i64 0)),.c (.v (.string ⟨#[]⟩)),.c (.sl 3 [] (some [])),.c (.sl 5 [] (some []))]),(8000,.blk 2 [.c (.v (.int .i64 y7)),.c (.v (.int .i64 0)),.c (.v (.string ⟨#[]⟩)),.t 48000 2 1,.t 102000 2 (O.len z43)]),(48000,.arr 2 3 z42 (some 1) false),(102000,.arr 2 5 z43 none false)],3⟩))∧p49_3 False fu (p49 False fu) K0 (p49_4L False fu (p49 False fu) K0 x3 y7 n2) x3 y7 z38 z39 z40 z41 z42 z43 z44 j45) (fun L hL_3=>?_) ?_
 conv=>cbv
 refine z0d hO [.shut] (d_p64 fu O.len hN h) ?_
 intro e Q a b
 conv=>cbv
 refine⟨by subst a hO;rfl,?_⟩
 intro r bs d
 rw [b] at d
 clear a b h
 obtain⟨y55,_,⟨rfl,rfl⟩,h⟩:=d
 conv=>cbv
 refine br_h hO h (by subst hO;rfl) (fun k7 h=>?_) (fun k7 h=>?_)
 conv=>cbv
 refine br_t hO k7 ?_
 conv=>cbv
 refine br_t hO k7 ?_
 conv=>cbv
 refine br_t hO k7 ?_
 conv=>cbv
 refine br_t hO k7 ?_
 conv=>cbv
 refine br_t hO k7 ?_
 conv=>cbv
 exact hL_3 _ _ ⟨(z0a .eql z40 0),⟨(by (conv=>lhs;cbv)<;>(subst hO;rfl)),(by (conv=>lhs;cbv)<;>(subst hO;rfl))⟩,h⟩
 conv=>cbv
 refine br_f hO k7 ?_
 conv=>cbv
 refine br_f hO k7 ?_
 conv=>cbv
 refine br_f hO k7 ?_
 conv=>cbv
 refine br_f hO k7 ?_
 conv=>cbv
 refine br_f hO k7 ?_
 conv=>cbv
 exact hL_3 _ _ ⟨false,⟨(by (conv=>lhs;cbv)<;>(subst hO;rfl)),(by (conv=>lhs;cbv)<;>(subst hO;rfl))⟩,h⟩
 rintro tm m ⟨j45,hs,h⟩
 unfold p49_3 at h
 obtain⟨rfl,rfl⟩:=hs
 conv=>cbv
 refine br_h hO h (by subst hO;rfl) (fun k6 h=>?_) (fun k6 h=>?_)
 conv=>cbv
 refine z0b hO ?_
 conv=>cbv
 refine z0o hO tiA [[0,1],[],[],[],[]] [(0,true,false),(1,true,false),(2,true,false),(3,true,false),(4,true,false),(5,true,false),(6,false,false),(7,false,false),(8,false,true),(9,true,true),(10,false,true)] (by kernel_rfl) ?_
 conv=>cbv
 refine z0d hO [.ref 3,.shut,.ref 1] (ih_p49 O.len hN h) ?_
 intro e Q a b
 conv=>cbv
 refine⟨by subst a hO;rfl,?_⟩
 intro r bs d
 rw [b] at d
 clear a b h
 obtain⟨y46,y47,y48,y49,y50,y51,y52,y53,y54,_,⟨rfl,rfl⟩,h⟩:=d
 conv=>cbv
 refine agr hO rfl rfl ?_
 refine agr hO rfl rfl ?_
 refine z0z hO h (fun g=>(by subst hO;exact g)) (fun h=>?_)
 conv=>cbv
 refine⟨(by subst hO;rfl),?_⟩
 refine and_h h (fun g=>(by subst hO;exact g)) (fun h=>?_)
 refine z0b hO ?_
 conv=>cbv
 exact hLn2 n2 _ _ (Nat.lt_succ_self n2) ⟨y51,y52,y53,y54,z42,(z43++(List.take 1 [[(CV.v (.int .i64 y46)),(CV.v (.int .i64 y47)),(CV.v (.string y48)),(CV.sl 3 y49 none),(CV.sl 5 y50 none)]])),z0c .add .i64 z44 1,(.inr ⟨(by (conv=>lhs;cbv)<;>(subst hO;rfl)),(by (conv=>lhs;cbv)<;>(subst hO;rfl))⟩),h⟩
 conv=>cbv
 refine z0z hO h (fun g=>(by subst hO;exact g)) (fun h=>?_)
 conv=>cbv
 refine z0k hO ?_
 conv=>cbv
 rw [b]
 exact⟨y7,0,⟨#[]⟩,List.take 1 z42,z43,z38,z39,z40,z41,_,⟨(by subst hO;rfl),(by subst hO;rfl)⟩,h⟩)
 conv=>cbv
 refine z0e hO tiA h (by subst hO;rfl) [0,1,2,6,7] [0,1,7000,8000,78000] [] (fun tm m=>∃ (j56:EL) (j57:Int) (j58:Int) (j59:Int) (j60:ByteArray) (j61:EL),((j61=[]∧tm=frame 0 104 [(0,.p 0 0 0),(1,.c (.v (.int .i64 x3))),(2,.p 1 1 0),(6,.p 7000 2 0),(7,.p 8000 2 0)]∧m=⟨[(0,.blk 0 [.c (.sl 1 j56 none),.c (.v (.int .i64 j57)),.c (.v (.int .i64 j58))]),(1,.blk 1 [.c (.v (.int .i64 j59))]),(7000,.blk 2 [.c (.v (.int .i64 0)),.c (.v (.int .i64 0)),.c (.v (.string ⟨#[]⟩)),.c (.sl 3 [] (some [])),.c (.sl 5 [] (some []))]),(8000,.blk 2 [.c (.v (.int .i64 y7)),.c (.v (.int .i64 0)),.c (.v (.string j60)),.c (.sl 3 [] (some [])),.c (.sl 5 [] (some []))])],3⟩)∨(tm=frame 0 104 [(0,.p 0 0 0),(1,.c (.v (.int .i64 x3))),(2,.p 1 1 0),(6,.p 7000 2 0),(7,.p 8000 2 0)]∧m=⟨[(0,.blk 0 [.c (.sl 1 j56 none),.c (.v (.int .i64 j57)),.c (.v (.int .i64 j58))]),(1,.blk 1 [.c (.v (.int .i64 j59))]),(7000,.blk 2 [.c (.v (.int .i64 0)),.c (.v (.int .i64 0)),.c (.v (.string ⟨#[]⟩)),.c (.sl 3 [] (some [])),.c (.sl 5 [] (some []))]),(8000,.blk 2 [.c (.v (.int .i64 y7)),.c (.v (.int .i64 0)),.c (.v (.string j60)),.t 78000 2 (O.len j61),.c (.sl 5 [] (some []))]),(78000,.arr 2 3 j61 none false)],3⟩))∧p49_7 False fu (p49 False fu) K0 x3 y7 j56 j57 j58 j59 j60 j61) (fun k10 h L hL_7=>?_) (fun k10 h L hL_7=>?_) ?_
 conv=>cbv
 refine z0d hO [.ref 3] (d_p27 fu O.len hN h) ?_
 intro e Q a b
 conv=>cbv
 refine⟨by subst a hO;rfl,?_⟩
 intro r bs d
 rw [b] at d
 clear a b h
 obtain⟨y79,y80,y81,y82,⟨rfl,rfl⟩,h⟩:=d
 conv=>cbv
 refine z0d hO [.ref 3] (d_p23 fu O.len hN h) ?_
 intro e Q a b
 conv=>cbv
 refine⟨by subst a hO;rfl,?_⟩
 intro r bs d
 rw [b] at d
 clear a b h
 obtain⟨y83,y84,y85,y86,⟨rfl,rfl⟩,h⟩:=d
 conv=>cbv
 refine z0e hO tiA h (by subst hO;rfl) [0,1,2,6,7,8] [0,1,7000,8000] [] (fun tm m=>∃ (j87:EL) (j88:Int) (j89:Int) (j90:Int),((tm=frame 0 104 [(0,.p 0 0 0),(1,.c (.v (.int .i64 x3))),(2,.p 1 1 0),(6,.p 7000 2 0),(7,.p 8000 2 0),(8,.c (.v (.int .i64 y83)))]∧m=⟨[(0,.blk 0 [.c (.sl 1 j87 none),.c (.v (.int .i64 j88)),.c (.v (.int .i64 j89))]),(1,.blk 1 [.c (.v (.int .i64 j90))]),(7000,.blk 2 [.c (.v (.int .i64 0)),.c (.v (.int .i64 0)),.c (.v (.string ⟨#[]⟩)),.c (.sl 3 [] (some [])),.c (.sl 5 [] (some []))]),(8000,.blk 2 [.c (.v (.int .i64 y7)),.c (.v (.int .i64 0)),.c (.v (.string y79)),.c (.sl 3 [] (some [])),.c (.sl 5 [] (some []))])],3⟩))∧p49_10 False fu (p49 False fu) K0 x3 y7 y79 y83 j87 j88 j89 j90) (fun k13 h L hL_10=>?_) (fun k13 h L hL_10=>?_) ?_
 conv=>cbv
 refine z0d hO [.ref 3,.shut] (d_p46 fu O.len hN h) ?_
 intro e Q a b
 conv=>cbv
 refine⟨by subst a hO;rfl,?_⟩
 intro r bs d
 rw [b] at d
 clear a b h
 obtain⟨y103,y104,y105,_,⟨rfl,rfl⟩,h⟩:=d
 conv=>cbv
 exact hL_10 _ _ ⟨y103,y104,y105,z0c .sub .i64 x4 1,⟨(by (conv=>lhs;cbv)<;>(subst hO;rfl)),(by (conv=>lhs;cbv)<;>(subst hO;rfl))⟩,h⟩
 conv=>cbv
 exact hL_10 _ _ ⟨y84,y85,y86,z0c .sub .i64 x4 1,⟨(by (conv=>lhs;cbv)<;>(subst hO;rfl)),(by (conv=>lhs;cbv)<;>(subst hO;rfl))⟩,h⟩
 rintro tm m ⟨j87,j88,j89,j90,hs,h⟩
 unfold p49_10 at h
 obtain⟨rfl,rfl⟩:=hs
 conv=>cbv
 refine z0r hO tiA [0,1,2,6,7,8,9] [0,1,7000,8000,78000] [] (fun (n:Nat) tm m=>∃ (z91:EL) (z92:Int) (z93:Int) (z94:EL) (z95:Int),((z94=[]∧tm=frame 0 104 [(0,.p 0 0 0),(1,.c (.v (.int .i64 x3))),(2,.p 1 1 0),(6,.p 7000 2 0),(7,.p 8000 2 0),(8,.c (.v (.int .i64 y83))),(9,.c (.v (.int .i64 z95)))]∧m=⟨[(0,.blk 0 [.c (.sl 1 z91 none),.c (.v (.int .i64 z92)),.c (.v (.int .i64 z93))]),(1,.blk 1 [.c (.v (.int .i64 j90))]),(7000,.blk 2 [.c (.v (.int .i64 0)),.c (.v (.int .i64 0)),.c (.v (.string ⟨#[]⟩)),.c (.sl 3 [] (some [])),.c (.sl 5 [] (some []))]),(8000,.blk 2 [.c (.v (.int .i64 y7)),.c (.v (.int .i64 0)),.c (.v (.string y79)),.c (.sl 3 [] (some [])),.c (.sl 5 [] (some []))])],3⟩)∨(tm=frame 0 104 [(0,.p 0 0 0),(1,.c (.v (.int .i64 x3))),(2,.p 1 1 0),(6,.p 7000 2 0),(7,.p 8000 2 0),(8,.c (.v (.int .i64 y83))),(9,.c (.v (.int .i64 z95)))]∧m=⟨[(0,.blk 0 [.c (.sl 1 z91 none),.c (.v (.int .i64 z92)),.c (.v (.int .i64 z93))]),(1,.blk 1 [.c (.v (.int .i64 j90))]),(7000,.blk 2 [.c (.v (.int .i64 0)),.c (.v (.int .i64 0)),.c (.v (.string ⟨#[]⟩)),.c (.sl 3 [] (some [])),.c (.sl 5 [] (some []))]),(8000,.blk 2 [.c (.v (.int .i64 y7)),.c (.v (.int .i64 0)),.c (.v (.string y79)),.t 78000 2 (O.len z94),.c (.sl 5 [] (some []))]),(78000,.arr 2 3 z94 none false)],3⟩))∧p49_9L False fu (p49 False fu) K0 x3 y7 y79 y83 j90 n z91 z92 z93 z94 z95) (fun n=>n) fu ⟨j87,j88,j89,nilE,0,(.inl ⟨rfl,(by (conv=>lhs;cbv)<;>(subst hO;rfl)),(by (conv=>lhs;cbv)<;>(subst hO;rfl))⟩),h⟩ ?_
 rintro n4 tm m L ⟨z91,z92,z93,z94,z95,hs,h⟩ hLn4
 (cases n4 with
 | zero=>rw [p49_9L] at h;exact h.elim
 | succ n4 =>
 rw [p49_9L] at h
 unfold p49_9 at h
 rcases hs with hs | hs
 obtain⟨rfl,rfl,rfl⟩:=hs
 conv=>cbv
 refine z0g hO tiA [0,1,2,6,7,8,9,69] [0,1,7000,8000] [] (fun tm m=>∃ (j96:Bool),((tm=frame 0 104 [(0,.p 0 0 0),(1,.c (.v (.int .i64 x3))),(2,.p 1 1 0),(6,.p 7000 2 0),(7,.p 8000 2 0),(8,.c (.v (.int .i64 y83))),(9,.c (.v (.int .i64 z95))),(69,.c (.v (.bool j96)))]∧m=⟨[(0,.blk 0 [.c (.sl 1 z91 none),.c (.v (.int .i64 z92)),.c (.v (.int .i64 z93))]),(1,.blk 1 [.c (.v (.int .i64 j90))]),(7000,.blk 2 [.c (.v (.int .i64 0)),.c (.v (.int .i64 0)),.c (.v (.string ⟨#[]⟩)),.c (.sl 3 [] (some [])),.c (.sl 5 [] (some []))]),(8000,.blk 2 [.c (.v (.int .i64 y7)),.c (.v (.int .i64 0)),.c (.v (.string y79)),.c (.sl 3 [] (some [])),.c (.sl 5 [] (some []))])],3⟩))∧p49_8 False fu (p49 False fu) K0 (p49_9L False fu (p49 False fu) K0 x3 y7 y79 y83 j90 n4) x3 y7 y79 j90 z91 z92 z93 nilE z95 j96) (fun L hL_8=>?_) ?_
 conv=>cbv
 refine br_h hO h (by subst hO;rfl) (fun k12 h=>?_) (fun k12 h=>?_)
 conv=>cbv
 refine br_t hO k12 ?_
 conv=>cbv
 refine br_t hO k12 ?_
 conv=>cbv
 refine br_t hO k12 ?_
 conv=>cbv
 refine br_t hO k12 ?_
 conv=>cbv
 refine br_t hO k12 ?_
 conv=>cbv
 exact hL_8 _ _ ⟨(z0a .eql z93 0),⟨(by (conv=>lhs;cbv)<;>(subst hO;rfl)),(by (conv=>lhs;cbv)<;>(subst hO;rfl))⟩,h⟩
 conv=>cbv
 refine br_f hO k12 ?_
 conv=>cbv
 refine br_f hO k12 ?_
 conv=>cbv
 refine br_f hO k12 ?_
 conv=>cbv
 refine br_f hO k12 ?_
 conv=>cbv
 refine br_f hO k12 ?_
 conv=>cbv
 exact hL_8 _ _ ⟨false,⟨(by (conv=>lhs;cbv)<;>(subst hO;rfl)),(by (conv=>lhs;cbv)<;>(subst hO;rfl))⟩,h⟩
 rintro tm m ⟨j96,hs,h⟩
 unfold p49_8 at h
 obtain⟨rfl,rfl⟩:=hs
 conv=>cbv
 refine br_h hO h (by subst hO;rfl) (fun k11 h=>?_) (fun k11 h=>?_)
 conv=>cbv
 refine z0b hO ?_
 conv=>cbv
 refine z0o hO tiA [[0],[],[],[],[]] [(0,true,false),(1,true,false),(2,true,false),(3,false,false),(4,false,false),(5,false,true),(6,true,true),(7,false,true)] (by kernel_rfl) ?_
 conv=>cbv
 refine z0d hO [.ref 3] (d_p63 fu O.len hN h) ?_
 intro e Q a b
 conv=>cbv
 refine⟨by subst a hO;rfl,?_⟩
 intro r bs d
 rw [b] at d
 clear a b h
 obtain⟨y97,y98,y99,y100,y101,y102,⟨rfl,rfl⟩,h⟩:=d
 conv=>cbv
 refine agr hO rfl rfl ?_
 refine agr hO rfl rfl ?_
 refine z0z hO h (fun g=>(by subst hO;exact g)) (fun h=>?_)
 conv=>cbv
 refine and_h h (fun g=>(by subst hO;exact g)) (fun h=>?_)
 refine z2i hO (by subst hO;exact List.cons_ne_nil _ _) ?_
 conv=>cbv
 refine z0b hO ?_
 conv=>cbv
 exact hLn4 n4 _ _ (Nat.lt_succ_self n4) ⟨y100,y101,y102,(nilE++(List.take 1 [[(CV.v (.int .i64 y97)),(CV.v (.int .i64 y98)),(CV.sl 3 y99 none)]])),z0c .add .i64 z95 1,(.inr ⟨(by (conv=>lhs;cbv)<;>(subst hO;rfl)),(by (conv=>lhs;cbv)<;>(subst hO;rfl))⟩),h⟩
 conv=>cbv
 exact hL_7 _ _ ⟨z91,z92,z93,j90,y79,nilE,(.inl ⟨rfl,(by (conv=>lhs;cbv)<;>(subst hO;rfl)),(by (conv=>lhs;cbv)<;>(subst hO;rfl))⟩),h⟩
 obtain⟨rfl,rfl⟩:=hs
 conv=>cbv
 refine z0g hO tiA [0,1,2,6,7,8,9,69] [0,1,7000,8000,78000] [] (fun tm m=>∃ (j96:Bool),((tm=frame 0 104 [(0,.p 0 0 0),(1,.c (.v (.int .i64 x3))),(2,.p 1 1 0),(6,.p 7000 2 0),(7,.p 8000 2 0),(8,.c (.v (.int .i64 y83))),(9,.c (.v (.int .i64 z95))),(69,.c (.v (.bool j96)))]∧m=⟨[(0,.blk 0 [.c (.sl 1 z91 none),.c (.v (.int .i64 z92)),.c (.v (.int .i64 z93))]),(1,.blk 1 [.c (.v (.int .i64 j90))]),(7000,.blk 2 [.c (.v (.int .i64 0)),.c (.v (.int .i64 0)),.c (.v (.string ⟨#[]⟩)),.c (.sl 3 [] (some [])),.c (.sl 5 [] (some []))]),(8000,.blk 2 [.c (.v (.int .i64 y7)),.c (.v (.int .i64 0)),.c (.v (.string y79)),.t 78000 2 (O.len z94),.c (.sl 5 [] (some []))]),(78000,.arr 2 3 z94 none false)],3⟩))∧p49_8 False fu (p49 False fu) K0 (p49_9L False fu (p49 False fu) K0 x3 y7 y79 y83 j90 n4) x3 y7 y79 j90 z91 z92 z93 z94 z95 j96) (fun L hL_8=>?_) ?_
 conv=>cbv
 refine br_h hO h (by subst hO;rfl) (fun k12 h=>?_) (fun k12 h=>?_)
 conv=>cbv
 refine br_t hO k12 ?_
 conv=>cbv
 refine br_t hO k12 ?_
 conv=>cbv
 refine br_t hO k12 ?_
 conv=>cbv
 refine br_t hO k12 ?_
 conv=>cbv
 refine br_t hO k12 ?_
 conv=>cbv
 exact hL_8 _ _ ⟨(z0a .eql z93 0),⟨(by (conv=>lhs;cbv)<;>(subst hO;rfl)),(by (conv=>lhs;cbv)<;>(subst hO;rfl))⟩,h⟩
 conv=>cbv
 refine br_f hO k12 ?_
 conv=>cbv
 refine br_f hO k12 ?_
 conv=>cbv
 refine br_f hO k12 ?_
 conv=>cbv
 refine br_f hO k12 ?_
 conv=>cbv
 refine br_f hO k12 ?_
 conv=>cbv
 exact hL_8 _ _ ⟨false,⟨(by (conv=>lhs;cbv)<;>(subst hO;rfl)),(by (conv=>lhs;cbv)<;>(subst hO;rfl))⟩,h⟩
 rintro tm m ⟨j96,hs,h⟩
 unfold p49_8 at h
 obtain⟨rfl,rfl⟩:=hs
 conv=>cbv
 refine br_h hO h (by subst hO;rfl) (fun k11 h=>?_) (fun k11 h=>?_)
 conv=>cbv
 refine z0b hO ?_
 conv=>cbv
 refine z0o hO tiA [[0],[],[],[],[]] [(0,true,false),(1,true,false),(2,true,false),(3,false,false),(4,false,false),(5,false,true),(6,true,true),(7,false,true)] (by kernel_rfl) ?_
 conv=>cbv
 refine z0d hO [.ref 3] (d_p63 fu O.len hN h) ?_
 intro e Q a b
 conv=>cbv
 refine⟨by subst a hO;rfl,?_⟩
 intro r bs d
 rw [b] at d
 clear a b h
 obtain⟨y97,y98,y99,y100,y101,y102,⟨rfl,rfl⟩,h⟩:=d
 conv=>cbv
 refine agr hO rfl rfl ?_
 refine agr hO rfl rfl ?_
 refine z0z hO h (fun g=>(by subst hO;exact g)) (fun h=>?_)
 conv=>cbv
 refine⟨(by subst hO;rfl),?_⟩
 refine and_h h (fun g=>(by subst hO;exact g)) (fun h=>?_)
 refine z0b hO ?_
 conv=>cbv
 exact hLn4 n4 _ _ (Nat.lt_succ_self n4) ⟨y100,y101,y102,(z94++(List.take 1 [[(CV.v (.int .i64 y97)),(CV.v (.int .i64 y98)),(CV.sl 3 y99 none)]])),z0c .add .i64 z95 1,(.inr ⟨(by (conv=>lhs;cbv)<;>(subst hO;rfl)),(by (conv=>lhs;cbv)<;>(subst hO;rfl))⟩),h⟩
 conv=>cbv
 exact hL_7 _ _ ⟨z91,z92,z93,j90,y79,z94,(.inr ⟨(by (conv=>lhs;cbv)<;>(subst hO;rfl)),(by (conv=>lhs;cbv)<;>(subst hO;rfl))⟩),h⟩)
 conv=>cbv
 exact hL_7 _ _ ⟨y8,y9,y10,z0c .sub .i64 x4 1,⟨#[]⟩,nilE,(.inl ⟨rfl,(by (conv=>lhs;cbv)<;>(subst hO;rfl)),(by (conv=>lhs;cbv)<;>(subst hO;rfl))⟩),h⟩
 rintro tm m ⟨j56,j57,j58,j59,j60,j61,hs,h⟩
 unfold p49_7 at h
 rcases hs with hs | hs
 obtain⟨rfl,rfl,rfl⟩:=hs
 conv=>cbv
 refine z0b hO ?_
 conv=>cbv
 refine z0b hO ?_
 conv=>cbv
 refine z0r hO tiA [0,1,2,6,7,10] [0,1,7000,8000,102000] [] (fun (n:Nat) tm m=>∃ (z62:EL) (z63:Int) (z64:Int) (z65:Int) (z66:EL) (z67:Int),((z66=[]∧tm=frame 0 104 [(0,.p 0 0 0),(1,.c (.v (.int .i64 x3))),(2,.p 1 1 0),(6,.p 7000 2 0),(7,.p 8000 2 0),(10,.c (.v (.int .i64 z67)))]∧m=⟨[(0,.blk 0 [.c (.sl 1 z62 none),.c (.v (.int .i64 z63)),.c (.v (.int .i64 z64))]),(1,.blk 1 [.c (.v (.int .i64 z65))]),(7000,.blk 2 [.c (.v (.int .i64 0)),.c (.v (.int .i64 0)),.c (.v (.string ⟨#[]⟩)),.c (.sl 3 [] (some [])),.c (.sl 5 [] (some []))]),(8000,.blk 2 [.c (.v (.int .i64 y7)),.c (.v (.int .i64 0)),.c (.v (.string j60)),.c (.sl 3 [] (some [])),.c (.sl 5 [] (some []))])],3⟩)∨(tm=frame 0 104 [(0,.p 0 0 0),(1,.c (.v (.int .i64 x3))),(2,.p 1 1 0),(6,.p 7000 2 0),(7,.p 8000 2 0),(10,.c (.v (.int .i64 z67)))]∧m=⟨[(0,.blk 0 [.c (.sl 1 z62 none),.c (.v (.int .i64 z63)),.c (.v (.int .i64 z64))]),(1,.blk 1 [.c (.v (.int .i64 z65))]),(7000,.blk 2 [.c (.v (.int .i64 0)),.c (.v (.int .i64 0)),.c (.v (.string ⟨#[]⟩)),.c (.sl 3 [] (some [])),.c (.sl 5 [] (some []))]),(8000,.blk 2 [.c (.v (.int .i64 y7)),.c (.v (.int .i64 0)),.c (.v (.string j60)),.c (.sl 3 [] (some [])),.t 102000 2 (O.len z66)]),(102000,.arr 2 5 z66 none false)],3⟩))∧p49_6L False fu (p49 False fu) K0 x3 y7 j60 nilE n z62 z63 z64 z65 z66 z67) (fun n=>n) fu ⟨j56,j57,j58,j59,nilE,0,(.inl ⟨rfl,(by (conv=>lhs;cbv)<;>(subst hO;rfl)),(by (conv=>lhs;cbv)<;>(subst hO;rfl))⟩),h⟩ ?_
 rintro n3 tm m L ⟨z62,z63,z64,z65,z66,z67,hs,h⟩ hLn3
 (cases n3 with
 | zero=>rw [p49_6L] at h;exact h.elim
 | succ n3 =>
 rw [p49_6L] at h
 unfold p49_6 at h
 rcases hs with hs | hs
 obtain⟨rfl,rfl,rfl⟩:=hs
 conv=>cbv
 refine z0g hO tiA [0,1,2,6,7,10,90] [0,1,7000,8000] [] (fun tm m=>∃ (j68:Bool),((tm=frame 0 104 [(0,.p 0 0 0),(1,.c (.v (.int .i64 x3))),(2,.p 1 1 0),(6,.p 7000 2 0),(7,.p 8000 2 0),(10,.c (.v (.int .i64 z67))),(90,.c (.v (.bool j68)))]∧m=⟨[(0,.blk 0 [.c (.sl 1 z62 none),.c (.v (.int .i64 z63)),.c (.v (.int .i64 z64))]),(1,.blk 1 [.c (.v (.int .i64 z65))]),(7000,.blk 2 [.c (.v (.int .i64 0)),.c (.v (.int .i64 0)),.c (.v (.string ⟨#[]⟩)),.c (.sl 3 [] (some [])),.c (.sl 5 [] (some []))]),(8000,.blk 2 [.c (.v (.int .i64 y7)),.c (.v (.int .i64 0)),.c (.v (.string j60)),.c (.sl 3 [] (some [])),.c (.sl 5 [] (some []))])],3⟩))∧p49_5 False fu (p49 False fu) K0 (p49_6L False fu (p49 False fu) K0 x3 y7 j60 nilE n3) x3 y7 j60 nilE z62 z63 z64 z65 nilE z67 j68) (fun L hL_5=>?_) ?_
 conv=>cbv
 refine z0d hO [.shut] (d_p64 fu O.len hN h) ?_
 intro e Q a b
 conv=>cbv
 refine⟨by subst a hO;rfl,?_⟩
 intro r bs d
 rw [b] at d
 clear a b h
 obtain⟨y78,_,⟨rfl,rfl⟩,h⟩:=d
 conv=>cbv
 refine br_h hO h (by subst hO;rfl) (fun k9 h=>?_) (fun k9 h=>?_)
 conv=>cbv
 refine br_t hO k9 ?_
 conv=>cbv
 refine br_t hO k9 ?_
 conv=>cbv
 refine br_t hO k9 ?_
 conv=>cbv
 refine br_t hO k9 ?_
 conv=>cbv
 refine br_t hO k9 ?_
 conv=>cbv
 exact hL_5 _ _ ⟨(z0a .eql z64 0),⟨(by (conv=>lhs;cbv)<;>(subst hO;rfl)),(by (conv=>lhs;cbv)<;>(subst hO;rfl))⟩,h⟩
 conv=>cbv
 refine br_f hO k9 ?_
 conv=>cbv
 refine br_f hO k9 ?_
 conv=>cbv
 refine br_f hO k9 ?_
 conv=>cbv
 refine br_f hO k9 ?_
 conv=>cbv
 refine br_f hO k9 ?_
 conv=>cbv
 exact hL_5 _ _ ⟨false,⟨(by (conv=>lhs;cbv)<;>(subst hO;rfl)),(by (conv=>lhs;cbv)<;>(subst hO;rfl))⟩,h⟩
 rintro tm m ⟨j68,hs,h⟩
 unfold p49_5 at h
 obtain⟨rfl,rfl⟩:=hs
 conv=>cbv
 refine br_h hO h (by subst hO;rfl) (fun k8 h=>?_) (fun k8 h=>?_)
 conv=>cbv
 refine z0b hO ?_
 conv=>cbv
 refine z0o hO tiA [[0,1],[],[],[],[]] [(0,true,false),(1,true,false),(2,true,false),(3,true,false),(4,true,false),(5,true,false),(6,false,false),(7,false,false),(8,false,true),(9,true,true),(10,false,true)] (by kernel_rfl) ?_
 conv=>cbv
 refine z0d hO [.ref 3,.shut,.ref 1] (ih_p49 O.len hN h) ?_
 intro e Q a b
 conv=>cbv
 refine⟨by subst a hO;rfl,?_⟩
 intro r bs d
 rw [b] at d
 clear a b h
 obtain⟨y69,y70,y71,y72,y73,y74,y75,y76,y77,_,⟨rfl,rfl⟩,h⟩:=d
 conv=>cbv
 refine agr hO rfl rfl ?_
 refine agr hO rfl rfl ?_
 refine z0z hO h (fun g=>(by subst hO;exact g)) (fun h=>?_)
 conv=>cbv
 refine and_h h (fun g=>(by subst hO;exact g)) (fun h=>?_)
 refine z2i hO (by subst hO;exact List.cons_ne_nil _ _) ?_
 conv=>cbv
 refine z0b hO ?_
 conv=>cbv
 exact hLn3 n3 _ _ (Nat.lt_succ_self n3) ⟨y74,y75,y76,y77,(nilE++(List.take 1 [[(CV.v (.int .i64 y69)),(CV.v (.int .i64 y70)),(CV.v (.string y71)),(CV.sl 3 y72 none),(CV.sl 5 y73 none)]])),z0c .add .i64 z67 1,(.inr ⟨(by (conv=>lhs;cbv)<;>(subst hO;rfl)),(by (conv=>lhs;cbv)<;>(subst hO;rfl))⟩),h⟩
 conv=>cbv
 rw [b]
 exact⟨y7,0,j60,nilE,nilE,z62,z63,z64,z65,_,⟨(by subst hO;rfl),(by subst hO;rfl)⟩,h⟩
 obtain⟨rfl,rfl⟩:=hs
 conv=>cbv
 refine z0g hO tiA [0,1,2,6,7,10,90] [0,1,7000,8000,102000] [] (fun tm m=>∃ (j68:Bool),((tm=frame 0 104 [(0,.p 0 0 0),(1,.c (.v (.int .i64 x3))),(2,.p 1 1 0),(6,.p 7000 2 0),(7,.p 8000 2 0),(10,.c (.v (.int .i64 z67))),(90,.c (.v (.bool j68)))]∧m=⟨[(0,.blk 0 [.c (.sl 1 z62 none),.c (.v (.int .i64 z63)),.c (.v (.int .i64 z64))]),(1,.blk 1 [.c (.v (.int .i64 z65))]),(7000,.blk 2 [.c (.v (.int .i64 0)),.c (.v (.int .i64 0)),.c (.v (.string ⟨#[]⟩)),.c (.sl 3 [] (some [])),.c (.sl 5 [] (some []))]),(8000,.blk 2 [.c (.v (.int .i64 y7)),.c (.v (.int .i64 0)),.c (.v (.string j60)),.c (.sl 3 [] (some [])),.t 102000 2 (O.len z66)]),(102000,.arr 2 5 z66 none false)],3⟩))∧p49_5 False fu (p49 False fu) K0 (p49_6L False fu (p49 False fu) K0 x3 y7 j60 nilE n3) x3 y7 j60 nilE z62 z63 z64 z65 z66 z67 j68) (fun L hL_5=>?_) ?_
 conv=>cbv
 refine z0d hO [.shut] (d_p64 fu O.len hN h) ?_
 intro e Q a b
 conv=>cbv
 refine⟨by subst a hO;rfl,?_⟩
 intro r bs d
 rw [b] at d
 clear a b h
 obtain⟨y78,_,⟨rfl,rfl⟩,h⟩:=d
 conv=>cbv
 refine br_h hO h (by subst hO;rfl) (fun k9 h=>?_) (fun k9 h=>?_)
 conv=>cbv
 refine br_t hO k9 ?_
 conv=>cbv
 refine br_t hO k9 ?_
 conv=>cbv
 refine br_t hO k9 ?_
 conv=>cbv
 refine br_t hO k9 ?_
 conv=>cbv
 refine br_t hO k9 ?_
 conv=>cbv
 exact hL_5 _ _ ⟨(z0a .eql z64 0),⟨(by (conv=>lhs;cbv)<;>(subst hO;rfl)),(by (conv=>lhs;cbv)<;>(subst hO;rfl))⟩,h⟩
 conv=>cbv
 refine br_f hO k9 ?_
 conv=>cbv
 refine br_f hO k9 ?_
 conv=>cbv
 refine br_f hO k9 ?_
 conv=>cbv
 refine br_f hO k9 ?_
 conv=>cbv
 refine br_f hO k9 ?_
 conv=>cbv
 exact hL_5 _ _ ⟨false,⟨(by (conv=>lhs;cbv)<;>(subst hO;rfl)),(by (conv=>lhs;cbv)<;>(subst hO;rfl))⟩,h⟩
 rintro tm m ⟨j68,hs,h⟩
 unfold p49_5 at h
 obtain⟨rfl,rfl⟩:=hs
 conv=>cbv
 refine br_h hO h (by subst hO;rfl) (fun k8 h=>?_) (fun k8 h=>?_)
 conv=>cbv
 refine z0b hO ?_
 conv=>cbv
 refine z0o hO tiA [[0,1],[],[],[],[]] [(0,true,false),(1,true,false),(2,true,false),(3,true,false),(4,true,false),(5,true,false),(6,false,false),(7,false,false),(8,false,true),(9,true,true),(10,false,true)] (by kernel_rfl) ?_
 conv=>cbv
 refine z0d hO [.ref 3,.shut,.ref 1] (ih_p49 O.len hN h) ?_
 intro e Q a b
 conv=>cbv
 refine⟨by subst a hO;rfl,?_⟩
 intro r bs d
 rw [b] at d
 clear a b h
 obtain⟨y69,y70,y71,y72,y73,y74,y75,y76,y77,_,⟨rfl,rfl⟩,h⟩:=d
 conv=>cbv
 refine agr hO rfl rfl ?_
 refine agr hO rfl rfl ?_
 refine z0z hO h (fun g=>(by subst hO;exact g)) (fun h=>?_)
 conv=>cbv
 refine⟨(by subst hO;rfl),?_⟩
 refine and_h h (fun g=>(by subst hO;exact g)) (fun h=>?_)
 refine z0b hO ?_
 conv=>cbv
 exact hLn3 n3 _ _ (Nat.lt_succ_self n3) ⟨y74,y75,y76,y77,(z66++(List.take 1 [[(CV.v (.int .i64 y69)),(CV.v (.int .i64 y70)),(CV.v (.string y71)),(CV.sl 3 y72 none),(CV.sl 5 y73 none)]])),z0c .add .i64 z67 1,(.inr ⟨(by (conv=>lhs;cbv)<;>(subst hO;rfl)),(by (conv=>lhs;cbv)<;>(subst hO;rfl))⟩),h⟩
 conv=>cbv
 refine z0k hO ?_
 conv=>cbv
 rw [b]
 exact⟨y7,0,j60,nilE,z66,z62,z63,z64,z65,_,⟨(by subst hO;rfl),(by subst hO;rfl)⟩,h⟩)
 obtain⟨rfl,rfl⟩:=hs
 conv=>cbv
 refine z0b hO ?_
 conv=>cbv
 refine z0b hO ?_
 conv=>cbv
 refine z0r hO tiA [0,1,2,6,7,10] [0,1,7000,8000,78000,102000] [] (fun (n:Nat) tm m=>∃ (z62:EL) (z63:Int) (z64:Int) (z65:Int) (z66:EL) (z67:Int),((z66=[]∧tm=frame 0 104 [(0,.p 0 0 0),(1,.c (.v (.int .i64 x3))),(2,.p 1 1 0),(6,.p 7000 2 0),(7,.p 8000 2 0),(10,.c (.v (.int .i64 z67)))]∧m=⟨[(0,.blk 0 [.c (.sl 1 z62 none),.c (.v (.int .i64 z63)),.c (.v (.int .i64 z64))]),(1,.blk 1 [.c (.v (.int .i64 z65))]),(7000,.blk 2 [.c (.v (.int .i64 0)),.c (.v (.int .i64 0)),.c (.v (.string ⟨#[]⟩)),.c (.sl 3 [] (some [])),.c (.sl 5 [] (some []))]),(8000,.blk 2 [.c (.v (.int .i64 y7)),.c (.v (.int .i64 0)),.c (.v (.string j60)),.t 78000 2 (O.len j61),.c (.sl 5 [] (some []))]),(78000,.arr 2 3 j61 none false)],3⟩)∨(tm=frame 0 104 [(0,.p 0 0 0),(1,.c (.v (.int .i64 x3))),(2,.p 1 1 0),(6,.p 7000 2 0),(7,.p 8000 2 0),(10,.c (.v (.int .i64 z67)))]∧m=⟨[(0,.blk 0 [.c (.sl 1 z62 none),.c (.v (.int .i64 z63)),.c (.v (.int .i64 z64))]),(1,.blk 1 [.c (.v (.int .i64 z65))]),(7000,.blk 2 [.c (.v (.int .i64 0)),.c (.v (.int .i64 0)),.c (.v (.string ⟨#[]⟩)),.c (.sl 3 [] (some [])),.c (.sl 5 [] (some []))]),(8000,.blk 2 [.c (.v (.int .i64 y7)),.c (.v (.int .i64 0)),.c (.v (.string j60)),.t 78000 2 (O.len j61),.t 102000 2 (O.len z66)]),(78000,.arr 2 3 j61 none false),(102000,.arr 2 5 z66 none false)],3⟩))∧p49_6L False fu (p49 False fu) K0 x3 y7 j60 j61 n z62 z63 z64 z65 z66 z67) (fun n=>n) fu ⟨j56,j57,j58,j59,nilE,0,(.inl ⟨rfl,(by (conv=>lhs;cbv)<;>(subst hO;rfl)),(by (conv=>lhs;cbv)<;>(subst hO;rfl))⟩),h⟩ ?_
 rintro n3 tm m L ⟨z62,z63,z64,z65,z66,z67,hs,h⟩ hLn3
 (cases n3 with
 | zero=>rw [p49_6L] at h;exact h.elim
 | succ n3 =>
 rw [p49_6L] at h
 unfold p49_6 at h
 rcases hs with hs | hs
 obtain⟨rfl,rfl,rfl⟩:=hs
 conv=>cbv
 refine z0g hO tiA [0,1,2,6,7,10,90] [0,1,7000,8000,78000] [] (fun tm m=>∃ (j68:Bool),((tm=frame 0 104 [(0,.p 0 0 0),(1,.c (.v (.int .i64 x3))),(2,.p 1 1 0),(6,.p 7000 2 0),(7,.p 8000 2 0),(10,.c (.v (.int .i64 z67))),(90,.c (.v (.bool j68)))]∧m=⟨[(0,.blk 0 [.c (.sl 1 z62 none),.c (.v (.int .i64 z63)),.c (.v (.int .i64 z64))]),(1,.blk 1 [.c (.v (.int .i64 z65))]),(7000,.blk 2 [.c (.v (.int .i64 0)),.c (.v (.int .i64 0)),.c (.v (.string ⟨#[]⟩)),.c (.sl 3 [] (some [])),.c (.sl 5 [] (some []))]),(8000,.blk 2 [.c (.v (.int .i64 y7)),.c (.v (.int .i64 0)),.c (.v (.string j60)),.t 78000 2 (O.len j61),.c (.sl 5 [] (some []))]),(78000,.arr 2 3 j61 none false)],3⟩))∧p49_5 False fu (p49 False fu) K0 (p49_6L False fu (p49 False fu) K0 x3 y7 j60 j61 n3) x3 y7 j60 j61 z62 z63 z64 z65 nilE z67 j68) (fun L hL_5=>?_) ?_
 conv=>cbv
 refine z0d hO [.shut] (d_p64 fu O.len hN h) ?_
 intro e Q a b
 conv=>cbv
 refine⟨by subst a hO;rfl,?_⟩
 intro r bs d
 rw [b] at d
 clear a b h
 obtain⟨y78,_,⟨rfl,rfl⟩,h⟩:=d
 conv=>cbv
 refine br_h hO h (by subst hO;rfl) (fun k9 h=>?_) (fun k9 h=>?_)
 conv=>cbv
 refine br_t hO k9 ?_
 conv=>cbv
 refine br_t hO k9 ?_
 conv=>cbv
 refine br_t hO k9 ?_
 conv=>cbv
 refine br_t hO k9 ?_
 conv=>cbv
 refine br_t hO k9 ?_
 conv=>cbv
 exact hL_5 _ _ ⟨(z0a .eql z64 0),⟨(by (conv=>lhs;cbv)<;>(subst hO;rfl)),(by (conv=>lhs;cbv)<;>(subst hO;rfl))⟩,h⟩
 conv=>cbv
 refine br_f hO k9 ?_
 conv=>cbv
 refine br_f hO k9 ?_
 conv=>cbv
 refine br_f hO k9 ?_
 conv=>cbv
 refine br_f hO k9 ?_
 conv=>cbv
 refine br_f hO k9 ?_
 conv=>cbv
 exact hL_5 _ _ ⟨false,⟨(by (conv=>lhs;cbv)<;>(subst hO;rfl)),(by (conv=>lhs;cbv)<;>(subst hO;rfl))⟩,h⟩
 rintro tm m ⟨j68,hs,h⟩
 unfold p49_5 at h
 obtain⟨rfl,rfl⟩:=hs
 conv=>cbv
 refine br_h hO h (by subst hO;rfl) (fun k8 h=>?_) (fun k8 h=>?_)
 conv=>cbv
 refine z0b hO ?_
 conv=>cbv
 refine z0o hO tiA [[0,1],[],[],[],[]] [(0,true,false),(1,true,false),(2,true,false),(3,true,false),(4,true,false),(5,true,false),(6,false,false),(7,false,false),(8,false,true),(9,true,true),(10,false,true)] (by kernel_rfl) ?_
 conv=>cbv
 refine z0d hO [.ref 3,.shut,.ref 1] (ih_p49 O.len hN h) ?_
 intro e Q a b
 conv=>cbv
 refine⟨by subst a hO;rfl,?_⟩
 intro r bs d
 rw [b] at d
 clear a b h
 obtain⟨y69,y70,y71,y72,y73,y74,y75,y76,y77,_,⟨rfl,rfl⟩,h⟩:=d
 conv=>cbv
 refine agr hO rfl rfl ?_
 refine agr hO rfl rfl ?_
 refine z0z hO h (fun g=>(by subst hO;exact g)) (fun h=>?_)
 conv=>cbv
 refine and_h h (fun g=>(by subst hO;exact g)) (fun h=>?_)
 refine z2i hO (by subst hO;exact List.cons_ne_nil _ _) ?_
 conv=>cbv
 refine z0b hO ?_
 conv=>cbv
 exact hLn3 n3 _ _ (Nat.lt_succ_self n3) ⟨y74,y75,y76,y77,(nilE++(List.take 1 [[(CV.v (.int .i64 y69)),(CV.v (.int .i64 y70)),(CV.v (.string y71)),(CV.sl 3 y72 none),(CV.sl 5 y73 none)]])),z0c .add .i64 z67 1,(.inr ⟨(by (conv=>lhs;cbv)<;>(subst hO;rfl)),(by (conv=>lhs;cbv)<;>(subst hO;rfl))⟩),h⟩
 conv=>cbv
 refine z0k hO ?_
 conv=>cbv
 rw [b]
 exact⟨y7,0,j60,j61,nilE,z62,z63,z64,z65,_,⟨(by subst hO;rfl),(by subst hO;rfl)⟩,h⟩
 obtain⟨rfl,rfl⟩:=hs
 conv=>cbv
 refine z0g hO tiA [0,1,2,6,7,10,90] [0,1,7000,8000,78000,102000] [] (fun tm m=>∃ (j68:Bool),((tm=frame 0 104 [(0,.p 0 0 0),(1,.c (.v (.int .i64 x3))),(2,.p 1 1 0),(6,.p 7000 2 0),(7,.p 8000 2 0),(10,.c (.v (.int .i64 z67))),(90,.c (.v (.bool j68)))]∧m=⟨[(0,.blk 0 [.c (.sl 1 z62 none),.c (.v (.int .i64 z63)),.c (.v (.int .i64 z64))]),(1,.blk 1 [.c (.v (.int .i64 z65))]),(7000,.blk 2 [.c (.v (.int .i64 0)),.c (.v (.int .i64 0)),.c (.v (.string ⟨#[]⟩)),.c (.sl 3 [] (some [])),.c (.sl 5 [] (some []))]),(8000,.blk 2 [.c (.v (.int .i64 y7)),.c (.v (.int .i64 0)),.c (.v (.string j60)),.t 78000 2 (O.len j61),.t 102000 2 (O.len z66)]),(78000,.arr 2 3 j61 none false),(102000,.arr 2 5 z66 none false)],3⟩))∧p49_5 False fu (p49 False fu) K0 (p49_6L False fu (p49 False fu) K0 x3 y7 j60 j61 n3) x3 y7 j60 j61 z62 z63 z64 z65 z66 z67 j68) (fun L hL_5=>?_) ?_
 conv=>cbv
 refine z0d hO [.shut] (d_p64 fu O.len hN h) ?_
 intro e Q a b
 conv=>cbv
 refine⟨by subst a hO;rfl,?_⟩
 intro r bs d
 rw [b] at d
 clear a b h
 obtain⟨y78,_,⟨rfl,rfl⟩,h⟩:=d
 conv=>cbv
 refine br_h hO h (by subst hO;rfl) (fun k9 h=>?_) (fun k9 h=>?_)
 conv=>cbv
 refine br_t hO k9 ?_
 conv=>cbv
 refine br_t hO k9 ?_
 conv=>cbv
 refine br_t hO k9 ?_
 conv=>cbv
 refine br_t hO k9 ?_
 conv=>cbv
 refine br_t hO k9 ?_
 conv=>cbv
 exact hL_5 _ _ ⟨(z0a .eql z64 0),⟨(by (conv=>lhs;cbv)<;>(subst hO;rfl)),(by (conv=>lhs;cbv)<;>(subst hO;rfl))⟩,h⟩
 conv=>cbv
 refine br_f hO k9 ?_
 conv=>cbv
 refine br_f hO k9 ?_
 conv=>cbv
 refine br_f hO k9 ?_
 conv=>cbv
 refine br_f hO k9 ?_
 conv=>cbv
 refine br_f hO k9 ?_
 conv=>cbv
 exact hL_5 _ _ ⟨false,⟨(by (conv=>lhs;cbv)<;>(subst hO;rfl)),(by (conv=>lhs;cbv)<;>(subst hO;rfl))⟩,h⟩
 rintro tm m ⟨j68,hs,h⟩
 unfold p49_5 at h
 obtain⟨rfl,rfl⟩:=hs
 conv=>cbv
 refine br_h hO h (by subst hO;rfl) (fun k8 h=>?_) (fun k8 h=>?_)
 conv=>cbv
 refine z0b hO ?_
 conv=>cbv
 refine z0o hO tiA [[0,1],[],[],[],[]] [(0,true,false),(1,true,false),(2,true,false),(3,true,false),(4,true,false),(5,true,false),(6,false,false),(7,false,false),(8,false,true),(9,true,true),(10,false,true)] (by kernel_rfl) ?_
 conv=>cbv
 refine z0d hO [.ref 3,.shut,.ref 1] (ih_p49 O.len hN h) ?_
 intro e Q a b
 conv=>cbv
 refine⟨by subst a hO;rfl,?_⟩
 intro r bs d
 rw [b] at d
 clear a b h
 obtain⟨y69,y70,y71,y72,y73,y74,y75,y76,y77,_,⟨rfl,rfl⟩,h⟩:=d
 conv=>cbv
 refine agr hO rfl rfl ?_
 refine agr hO rfl rfl ?_
 refine z0z hO h (fun g=>(by subst hO;exact g)) (fun h=>?_)
 conv=>cbv
 refine⟨(by subst hO;rfl),?_⟩
 refine and_h h (fun g=>(by subst hO;exact g)) (fun h=>?_)
 refine z0b hO ?_
 conv=>cbv
 exact hLn3 n3 _ _ (Nat.lt_succ_self n3) ⟨y74,y75,y76,y77,(z66++(List.take 1 [[(CV.v (.int .i64 y69)),(CV.v (.int .i64 y70)),(CV.v (.string y71)),(CV.sl 3 y72 none),(CV.sl 5 y73 none)]])),z0c .add .i64 z67 1,(.inr ⟨(by (conv=>lhs;cbv)<;>(subst hO;rfl)),(by (conv=>lhs;cbv)<;>(subst hO;rfl))⟩),h⟩
 conv=>cbv
 refine z0k hO ?_
 conv=>cbv
 refine z0k hO ?_
 conv=>cbv
 rw [b]
 exact⟨y7,0,j60,j61,z66,z62,z63,z64,z65,_,⟨(by subst hO;rfl),(by subst hO;rfl)⟩,h⟩)
theorem dd_p49 (fu:Nat):D_p49 fu:=by
 induction fu with
 | zero=>unfold D_p49;intros;rename_i h;rw [p49] at h;exact h.elim
 | succ n ih =>
  exact (by unfold D_p49;intro K0 L hN x0 x1 x2 x3 x4 h;exact b_p49 n ih L hN (by rw [p49] at h;exact h))
theorem d_p49 (fu:Nat):D_p49 fu:=dd_p49 fu
theorem d_p26 (fu:Nat){K0:Int→Int→ByteArray→EL→EL→EL→Int→Int→Prop}(L:EL→Nat)(hN:L=List.length){x0:EL}{x1 x2:Int}(h:p26 False fu K0 x0 x1 x2):Den Try.prog G0 26 [.ptr [.c (.sl 1 x0 none),.c (.v (.int .i64 x1)),.c (.v (.int .i64 x2))]] (fun r bs=>(∃ (y0 y1:Int) (y2:ByteArray) (y3 y4 y5:EL) (y6 y7:Int),(r=.agg [.c (.v (.int .i64 y0)),.c (.v (.int .i64 y1)),.c (.v (.string y2)),.c (.sl 3 y3 none),.c (.sl 5 y4 none)]∧bs=[.ptr [.c (.sl 1 y5 none),.c (.v (.int .i64 y6)),.c (.v (.int .i64 y7))]])∧K0 y0 y1 y2 y3 y4 y5 y6 y7)):=by
 obtain⟨O,hO⟩:∃ O,O=std 1 T G0 (Den Try.prog G0):=⟨_,rfl⟩
 have hLO:L=O.len:=by rw [hN,hO];rfl
 subst hLO
 refine den_h hO tiA mixed tabOk (fn:=Try.f26) (sh:=true) (by kernel_rfl) rfl rfl rfl rfl ?_
 intro Q b
 unfold p26 at h
 conv=>cbv
 refine z0d hO [.ref 3,.shut,.ref 1] (d_p49 fu O.len hN h) ?_
 intro e Q a b
 conv=>cbv
 refine⟨by subst a hO;rfl,?_⟩
 intro r bs d
 rw [b] at d
 clear a b h
 obtain⟨y1,y2,y3,y4,y5,y6,y7,y8,y9,_,⟨rfl,rfl⟩,h⟩:=d
 conv=>cbv
 rw [b]
 exact⟨y1,y2,y3,y4,y5,y6,y7,y8,⟨(by subst hO;rfl),(by subst hO;rfl)⟩,h⟩
theorem d_p25 (fu:Nat){K0:Int→Int→Int→ByteArray→ByteArray→Int→Int→ByteArray→EL→EL→Int→Int→ByteArray→EL→EL→EL→EL→Int→Int→Prop}(L:EL→Nat)(hN:L=List.length){x0:EL}{x1 x2:Int}(h:p25 False fu K0 x0 x1 x2):Den Try.prog G0 25 [.ptr [.c (.sl 1 x0 none),.c (.v (.int .i64 x1)),.c (.v (.int .i64 x2))]] (fun r bs=>(∃ (y0 y1 y2:Int) (y3 y4:ByteArray) (y5 y6:Int) (y7:ByteArray) (y8 y9:EL) (y10 y11:Int) (y12:ByteArray) (y13 y14 y15 y16:EL) (y17 y18:Int),(r=.agg [.c (.v (.int .i64 y0)),.c (.v (.int .i64 y1)),.c (.v (.int .i64 y2)),.c (.v (.string y3)),.c (.v (.string y4)),.c (.v (.int .i64 y5)),.c (.v (.int .i64 y6)),.c (.v (.string y7)),.c (.sl 3 y8 none),.c (.sl 5 y9 none),.c (.v (.int .i64 y10)),.c (.v (.int .i64 y11)),.c (.v (.string y12)),.c (.sl 3 y13 none),.c (.sl 5 y14 none),.c (.sl 6 y15 none)]∧bs=[.ptr [.c (.sl 1 y16 none),.c (.v (.int .i64 y17)),.c (.v (.int .i64 y18))]])∧K0 y0 y1 y2 y3 y4 y5 y6 y7 y8 y9 y10 y11 y12 y13 y14 y15 y16 y17 y18)):=by
 obtain⟨O,hO⟩:∃ O,O=std 1 T G0 (Den Try.prog G0):=⟨_,rfl⟩
 have hLO:L=O.len:=by rw [hN,hO];rfl
 subst hLO
 refine den_h hO tiA mixed tabOk (fn:=Try.f25) (sh:=true) (by kernel_rfl) rfl rfl rfl rfl ?_
 intro Q b
 unfold p25 at h
 conv=>cbv
 refine z0d hO [.ref 3,.shut,.shut] (d_p48 fu O.len hN h) ?_
 intro e Q a b
 conv=>cbv
 refine⟨by subst a hO;rfl,?_⟩
 intro r bs d
 rw [b] at d
 clear a b h
 obtain⟨y1,y2,y3,y4,_,_,⟨rfl,rfl⟩,h⟩:=d
 conv=>cbv
 refine z0d hO [.ref 3] (d_p23 fu O.len hN h) ?_
 intro e Q a b
 conv=>cbv
 refine⟨by subst a hO;rfl,?_⟩
 intro r bs d
 rw [b] at d
 clear a b h
 obtain⟨y5,y6,y7,y8,⟨rfl,rfl⟩,h⟩:=d
 conv=>cbv
 refine z0d hO [.ref 3] (d_p23 fu O.len hN h) ?_
 intro e Q a b
 conv=>cbv
 refine⟨by subst a hO;rfl,?_⟩
 intro r bs d
 rw [b] at d
 clear a b h
 obtain⟨y9,y10,y11,y12,⟨rfl,rfl⟩,h⟩:=d
 conv=>cbv
 refine z0d hO [.ref 3] (d_p27 fu O.len hN h) ?_
 intro e Q a b
 conv=>cbv
 refine⟨by subst a hO;rfl,?_⟩
 intro r bs d
 rw [b] at d
 clear a b h
 obtain⟨y13,y14,y15,y16,⟨rfl,rfl⟩,h⟩:=d
 conv=>cbv
 refine z0d hO [.ref 3] (d_p27 fu O.len hN h) ?_
 intro e Q a b
 conv=>cbv
 refine⟨by subst a hO;rfl,?_⟩
 intro r bs d
 rw [b] at d
 clear a b h
 obtain⟨y17,y18,y19,y20,⟨rfl,rfl⟩,h⟩:=d
 conv=>cbv
 refine z0d hO [.ref 3] (d_p26 fu O.len hN h) ?_
 intro e Q a b
 conv=>cbv
 refine⟨by subst a hO;rfl,?_⟩
 intro r bs d
 rw [b] at d
 clear a b h
 obtain⟨y21,y22,y23,y24,y25,y26,y27,y28,⟨rfl,rfl⟩,h⟩:=d
 conv=>cbv
 refine z0e hO tiA h (by subst hO;rfl) [0,2,3,4] [0,3000,4000] [] (fun tm m=>∃ (j29:Int),((tm=frame 0 76 [(0,.p 0 0 0),(2,.p 3000 1 0),(3,.p 4000 1 0),(4,.c (.v (.int .u64 j29)))]∧m=⟨[(0,.blk 0 [.c (.sl 1 y26 none),.c (.v (.int .i64 y27)),.c (.v (.int .i64 y28))]),(3000,.blk 1 [.c (.v (.int .i64 0)),.c (.v (.int .i64 0)),.c (.v (.int .i64 0)),.c (.v (.string ⟨#[]⟩)),.c (.v (.string ⟨#[]⟩)),.c (.v (.int .i64 0)),.c (.v (.int .i64 0)),.c (.v (.string ⟨#[]⟩)),.c (.sl 3 [] (some [])),.c (.sl 5 [] (some [])),.c (.v (.int .i64 0)),.c (.v (.int .i64 0)),.c (.v (.string ⟨#[]⟩)),.c (.sl 3 [] (some [])),.c (.sl 5 [] (some [])),.c (.sl 6 [] (some []))]),(4000,.blk 1 [.c (.v (.int .i64 y1)),.c (.v (.int .i64 y5)),.c (.v (.int .i64 y9)),.c (.v (.string y13)),.c (.v (.string y17)),.c (.v (.int .i64 y21)),.c (.v (.int .i64 y22)),.c (.v (.string y23)),.c (.sl 3 y24 none),.c (.sl 5 y25 none),.c (.v (.int .i64 0)),.c (.v (.int .i64 0)),.c (.v (.string ⟨#[]⟩)),.c (.sl 3 [] (some [])),.c (.sl 5 [] (some [])),.c (.sl 6 [] (some []))])],2⟩))∧p25_6 False fu K0 y1 y5 y9 y13 y17 y21 y22 y23 y24 y25 y26 y27 y28 j29) (fun k6 h L hL_6=>?_) (fun k6 h L hL_6=>?_) ?_
 conv=>cbv
 exact hL_6 _ _ ⟨1,⟨(by (conv=>lhs;cbv)<;>(subst hO;rfl)),(by (conv=>lhs;cbv)<;>(subst hO;rfl))⟩,h⟩
 conv=>cbv
 exact hL_6 _ _ ⟨0,⟨(by (conv=>lhs;cbv)<;>(subst hO;rfl)),(by (conv=>lhs;cbv)<;>(subst hO;rfl))⟩,h⟩
 rintro tm m ⟨j29,hs,h⟩
 unfold p25_6 at h
 obtain⟨rfl,rfl⟩:=hs
 conv=>cbv
 refine z0d hO [.ref 3,.shut,.shut] (d_p48 fu O.len hN h) ?_
 intro e Q a b
 conv=>cbv
 refine⟨by subst a hO;rfl,?_⟩
 intro r bs d
 rw [b] at d
 clear a b h
 obtain⟨y30,y31,y32,y33,_,_,⟨rfl,rfl⟩,h⟩:=d
 conv=>cbv
 refine z0g hO tiA [0,2,3,41] [0,3000,4000] [] (fun tm m=>∃ (j34:Bool),((tm=frame 0 76 [(0,.p 0 0 0),(2,.p 3000 1 0),(3,.p 4000 1 0),(41,.c (.v (.bool j34)))]∧m=⟨[(0,.blk 0 [.c (.sl 1 y31 none),.c (.v (.int .i64 y32)),.c (.v (.int .i64 y33))]),(3000,.blk 1 [.c (.v (.int .i64 0)),.c (.v (.int .i64 0)),.c (.v (.int .i64 0)),.c (.v (.string ⟨#[]⟩)),.c (.v (.string ⟨#[]⟩)),.c (.v (.int .i64 0)),.c (.v (.int .i64 0)),.c (.v (.string ⟨#[]⟩)),.c (.sl 3 [] (some [])),.c (.sl 5 [] (some [])),.c (.v (.int .i64 0)),.c (.v (.int .i64 0)),.c (.v (.string ⟨#[]⟩)),.c (.sl 3 [] (some [])),.c (.sl 5 [] (some [])),.c (.sl 6 [] (some []))]),(4000,.blk 1 [.c (.v (.int .i64 y1)),.c (.v (.int .i64 y5)),.c (.v (.int .i64 y9)),.c (.v (.string y13)),.c (.v (.string y17)),.c (.v (.int .i64 y21)),.c (.v (.int .i64 y22)),.c (.v (.string y23)),.c (.sl 3 y24 none),.c (.sl 5 y25 none),.c (.v (.int .i64 0)),.c (.v (.int .i64 0)),.c (.v (.string ⟨#[]⟩)),.c (.sl 3 [] (some [])),.c (.sl 5 [] (some [])),.c (.sl 6 [] (some []))])],2⟩))∧p25_5 False fu K0 y1 y5 y9 y13 y17 y21 y22 y23 y24 y25 y31 y32 y33 j34) (fun L hL_5=>?_) ?_
 conv=>cbv
 refine br_h hO h (by subst hO;rfl) (fun k5 h=>?_) (fun k5 h=>?_)
 conv=>cbv
 refine br_t hO k5 ?_
 conv=>cbv
 refine br_t hO k5 ?_
 conv=>cbv
 exact hL_5 _ _ ⟨(z0a .eql j29 1),⟨(by (conv=>lhs;cbv)<;>(subst hO;rfl)),(by (conv=>lhs;cbv)<;>(subst hO;rfl))⟩,h⟩
 conv=>cbv
 refine br_f hO k5 ?_
 conv=>cbv
 refine br_f hO k5 ?_
 conv=>cbv
 exact hL_5 _ _ ⟨false,⟨(by (conv=>lhs;cbv)<;>(subst hO;rfl)),(by (conv=>lhs;cbv)<;>(subst hO;rfl))⟩,h⟩
 rintro tm m ⟨j34,hs,h⟩
 unfold p25_5 at h
 obtain⟨rfl,rfl⟩:=hs
 conv=>cbv
 refine z0e hO tiA h (by subst hO;rfl) [0,2,3] [0,3000,4000] [] (fun tm m=>∃ (j35:EL) (j36:Int) (j37:Int) (j38:Int) (j39:Int) (j40:ByteArray) (j41:EL) (j42:EL),((tm=frame 0 76 [(0,.p 0 0 0),(2,.p 3000 1 0),(3,.p 4000 1 0)]∧m=⟨[(0,.blk 0 [.c (.sl 1 j35 none),.c (.v (.int .i64 j36)),.c (.v (.int .i64 j37))]),(3000,.blk 1 [.c (.v (.int .i64 0)),.c (.v (.int .i64 0)),.c (.v (.int .i64 0)),.c (.v (.string ⟨#[]⟩)),.c (.v (.string ⟨#[]⟩)),.c (.v (.int .i64 0)),.c (.v (.int .i64 0)),.c (.v (.string ⟨#[]⟩)),.c (.sl 3 [] (some [])),.c (.sl 5 [] (some [])),.c (.v (.int .i64 0)),.c (.v (.int .i64 0)),.c (.v (.string ⟨#[]⟩)),.c (.sl 3 [] (some [])),.c (.sl 5 [] (some [])),.c (.sl 6 [] (some []))]),(4000,.blk 1 [.c (.v (.int .i64 y1)),.c (.v (.int .i64 y5)),.c (.v (.int .i64 y9)),.c (.v (.string y13)),.c (.v (.string y17)),.c (.v (.int .i64 y21)),.c (.v (.int .i64 y22)),.c (.v (.string y23)),.c (.sl 3 y24 none),.c (.sl 5 y25 none),.c (.v (.int .i64 j38)),.c (.v (.int .i64 j39)),.c (.v (.string j40)),.c (.sl 3 j41 none),.c (.sl 5 j42 none),.c (.sl 6 [] (some []))])],2⟩)∨(j41=[]∧j42=[]∧tm=frame 0 76 [(0,.p 0 0 0),(2,.p 3000 1 0),(3,.p 4000 1 0)]∧m=⟨[(0,.blk 0 [.c (.sl 1 j35 none),.c (.v (.int .i64 j36)),.c (.v (.int .i64 j37))]),(3000,.blk 1 [.c (.v (.int .i64 0)),.c (.v (.int .i64 0)),.c (.v (.int .i64 0)),.c (.v (.string ⟨#[]⟩)),.c (.v (.string ⟨#[]⟩)),.c (.v (.int .i64 0)),.c (.v (.int .i64 0)),.c (.v (.string ⟨#[]⟩)),.c (.sl 3 [] (some [])),.c (.sl 5 [] (some [])),.c (.v (.int .i64 0)),.c (.v (.int .i64 0)),.c (.v (.string ⟨#[]⟩)),.c (.sl 3 [] (some [])),.c (.sl 5 [] (some [])),.c (.sl 6 [] (some []))]),(4000,.blk 1 [.c (.v (.int .i64 y1)),.c (.v (.int .i64 y5)),.c (.v (.int .i64 y9)),.c (.v (.string y13)),.c (.v (.string y17)),.c (.v (.int .i64 y21)),.c (.v (.int .i64 y22)),.c (.v (.string y23)),.c (.sl 3 y24 none),.c (.sl 5 y25 none),.c (.v (.int .i64 j38)),.c (.v (.int .i64 j39)),.c (.v (.string j40)),.c (.sl 3 [] (some [])),.c (.sl 5 [] (some [])),.c (.sl 6 [] (some []))])],2⟩))∧p25_4 False fu K0 y1 y5 y9 y13 y17 y21 y22 y23 y24 y25 j35 j36 j37 j38 j39 j40 j41 j42) (fun k4 h L hL_4=>?_) (fun k4 h L hL_4=>?_) ?_
 conv=>cbv
 refine z0d hO [.ref 3] (d_p26 fu O.len hN h) ?_
 intro e Q a b
 conv=>cbv
 refine⟨by subst a hO;rfl,?_⟩
 intro r bs d
 rw [b] at d
 clear a b h
 obtain⟨y71,y72,y73,y74,y75,y76,y77,y78,⟨rfl,rfl⟩,h⟩:=d
 conv=>cbv
 exact hL_4 _ _ ⟨y76,y77,y78,y71,y72,y73,y74,y75,(.inl ⟨(by (conv=>lhs;cbv)<;>(subst hO;rfl)),(by (conv=>lhs;cbv)<;>(subst hO;rfl))⟩),h⟩
 conv=>cbv
 exact hL_4 _ _ ⟨y31,y32,y33,0,0,⟨#[]⟩,nilE,nilE,(.inr ⟨rfl,rfl,(by (conv=>lhs;cbv)<;>(subst hO;rfl)),(by (conv=>lhs;cbv)<;>(subst hO;rfl))⟩),h⟩
 rintro tm m ⟨j35,j36,j37,j38,j39,j40,j41,j42,hs,h⟩
 unfold p25_4 at h
 rcases hs with hs | hs
 obtain⟨rfl,rfl⟩:=hs
 conv=>cbv
 refine z0d hO [.ref 3] (d_p23 fu O.len hN h) ?_
 intro e Q a b
 conv=>cbv
 refine⟨by subst a hO;rfl,?_⟩
 intro r bs d
 rw [b] at d
 clear a b h
 obtain⟨y43,y44,y45,y46,⟨rfl,rfl⟩,h⟩:=d
 conv=>cbv
 refine z0e hO tiA h (by subst hO;rfl) [0,2,3,5] [0,3000,4000] [] (fun tm m=>∃ (j47:EL) (j48:Int) (j49:Int),((tm=frame 0 76 [(0,.p 0 0 0),(2,.p 3000 1 0),(3,.p 4000 1 0),(5,.c (.v (.int .i64 y43)))]∧m=⟨[(0,.blk 0 [.c (.sl 1 j47 none),.c (.v (.int .i64 j48)),.c (.v (.int .i64 j49))]),(3000,.blk 1 [.c (.v (.int .i64 0)),.c (.v (.int .i64 0)),.c (.v (.int .i64 0)),.c (.v (.string ⟨#[]⟩)),.c (.v (.string ⟨#[]⟩)),.c (.v (.int .i64 0)),.c (.v (.int .i64 0)),.c (.v (.string ⟨#[]⟩)),.c (.sl 3 [] (some [])),.c (.sl 5 [] (some [])),.c (.v (.int .i64 0)),.c (.v (.int .i64 0)),.c (.v (.string ⟨#[]⟩)),.c (.sl 3 [] (some [])),.c (.sl 5 [] (some [])),.c (.sl 6 [] (some []))]),(4000,.blk 1 [.c (.v (.int .i64 y1)),.c (.v (.int .i64 y5)),.c (.v (.int .i64 y9)),.c (.v (.string y13)),.c (.v (.string y17)),.c (.v (.int .i64 y21)),.c (.v (.int .i64 y22)),.c (.v (.string y23)),.c (.sl 3 y24 none),.c (.sl 5 y25 none),.c (.v (.int .i64 j38)),.c (.v (.int .i64 j39)),.c (.v (.string j40)),.c (.sl 3 j41 none),.c (.sl 5 j42 none),.c (.sl 6 [] (some []))])],2⟩))∧p25_3 False fu K0 y1 y5 y9 y13 y17 y21 y22 y23 y24 y25 j38 j39 j40 j41 j42 y43 j47 j48 j49) (fun k3 h L hL_3=>?_) (fun k3 h L hL_3=>?_) ?_
 conv=>cbv
 refine z0d hO [.ref 3,.shut] (d_p46 fu O.len hN h) ?_
 intro e Q a b
 conv=>cbv
 refine⟨by subst a hO;rfl,?_⟩
 intro r bs d
 rw [b] at d
 clear a b h
 obtain⟨y68,y69,y70,_,⟨rfl,rfl⟩,h⟩:=d
 conv=>cbv
 exact hL_3 _ _ ⟨y68,y69,y70,⟨(by (conv=>lhs;cbv)<;>(subst hO;rfl)),(by (conv=>lhs;cbv)<;>(subst hO;rfl))⟩,h⟩
 conv=>cbv
 exact hL_3 _ _ ⟨y44,y45,y46,⟨(by (conv=>lhs;cbv)<;>(subst hO;rfl)),(by (conv=>lhs;cbv)<;>(subst hO;rfl))⟩,h⟩
 rintro tm m ⟨j47,j48,j49,hs,h⟩
 unfold p25_3 at h
 obtain⟨rfl,rfl⟩:=hs
 conv=>cbv
 refine z0r hO tiA [0,2,3,5,6] [0,3000,4000,74000] [] (fun (n:Nat) tm m=>∃ (z50:EL) (z51:Int) (z52:Int) (z53:EL) (z54:Int),((z53=[]∧tm=frame 0 76 [(0,.p 0 0 0),(2,.p 3000 1 0),(3,.p 4000 1 0),(5,.c (.v (.int .i64 y43))),(6,.c (.v (.int .i64 z54)))]∧m=⟨[(0,.blk 0 [.c (.sl 1 z50 none),.c (.v (.int .i64 z51)),.c (.v (.int .i64 z52))]),(3000,.blk 1 [.c (.v (.int .i64 0)),.c (.v (.int .i64 0)),.c (.v (.int .i64 0)),.c (.v (.string ⟨#[]⟩)),.c (.v (.string ⟨#[]⟩)),.c (.v (.int .i64 0)),.c (.v (.int .i64 0)),.c (.v (.string ⟨#[]⟩)),.c (.sl 3 [] (some [])),.c (.sl 5 [] (some [])),.c (.v (.int .i64 0)),.c (.v (.int .i64 0)),.c (.v (.string ⟨#[]⟩)),.c (.sl 3 [] (some [])),.c (.sl 5 [] (some [])),.c (.sl 6 [] (some []))]),(4000,.blk 1 [.c (.v (.int .i64 y1)),.c (.v (.int .i64 y5)),.c (.v (.int .i64 y9)),.c (.v (.string y13)),.c (.v (.string y17)),.c (.v (.int .i64 y21)),.c (.v (.int .i64 y22)),.c (.v (.string y23)),.c (.sl 3 y24 none),.c (.sl 5 y25 none),.c (.v (.int .i64 j38)),.c (.v (.int .i64 j39)),.c (.v (.string j40)),.c (.sl 3 j41 none),.c (.sl 5 j42 none),.c (.sl 6 [] (some []))])],2⟩)∨(tm=frame 0 76 [(0,.p 0 0 0),(2,.p 3000 1 0),(3,.p 4000 1 0),(5,.c (.v (.int .i64 y43))),(6,.c (.v (.int .i64 z54)))]∧m=⟨[(0,.blk 0 [.c (.sl 1 z50 none),.c (.v (.int .i64 z51)),.c (.v (.int .i64 z52))]),(3000,.blk 1 [.c (.v (.int .i64 0)),.c (.v (.int .i64 0)),.c (.v (.int .i64 0)),.c (.v (.string ⟨#[]⟩)),.c (.v (.string ⟨#[]⟩)),.c (.v (.int .i64 0)),.c (.v (.int .i64 0)),.c (.v (.string ⟨#[]⟩)),.c (.sl 3 [] (some [])),.c (.sl 5 [] (some [])),.c (.v (.int .i64 0)),.c (.v (.int .i64 0)),.c (.v (.string ⟨#[]⟩)),.c (.sl 3 [] (some [])),.c (.sl 5 [] (some [])),.c (.sl 6 [] (some []))]),(4000,.blk 1 [.c (.v (.int .i64 y1)),.c (.v (.int .i64 y5)),.c (.v (.int .i64 y9)),.c (.v (.string y13)),.c (.v (.string y17)),.c (.v (.int .i64 y21)),.c (.v (.int .i64 y22)),.c (.v (.string y23)),.c (.sl 3 y24 none),.c (.sl 5 y25 none),.c (.v (.int .i64 j38)),.c (.v (.int .i64 j39)),.c (.v (.string j40)),.c (.sl 3 j41 none),.c (.sl 5 j42 none),.t 74000 1 (O.len z53)]),(74000,.arr 1 6 z53 none false)],2⟩))∧p25_2L False fu K0 y1 y5 y9 y13 y17 y21 y22 y23 y24 y25 j38 j39 j40 j41 j42 y43 n z50 z51 z52 z53 z54) (fun n=>n) fu ⟨j47,j48,j49,nilE,0,(.inl ⟨rfl,(by (conv=>lhs;cbv)<;>(subst hO;rfl)),(by (conv=>lhs;cbv)<;>(subst hO;rfl))⟩),h⟩ ?_
 rintro n1 tm m L ⟨z50,z51,z52,z53,z54,hs,h⟩ hLn1
 (cases n1 with
 | zero=>rw [p25_2L] at h;exact h.elim
 | succ n1 =>
 rw [p25_2L] at h
 unfold p25_2 at h
 rcases hs with hs | hs
 obtain⟨rfl,rfl,rfl⟩:=hs
 conv=>cbv
 refine z0g hO tiA [0,2,3,5,6,60] [0,3000,4000] [] (fun tm m=>∃ (j55:Bool),((tm=frame 0 76 [(0,.p 0 0 0),(2,.p 3000 1 0),(3,.p 4000 1 0),(5,.c (.v (.int .i64 y43))),(6,.c (.v (.int .i64 z54))),(60,.c (.v (.bool j55)))]∧m=⟨[(0,.blk 0 [.c (.sl 1 z50 none),.c (.v (.int .i64 z51)),.c (.v (.int .i64 z52))]),(3000,.blk 1 [.c (.v (.int .i64 0)),.c (.v (.int .i64 0)),.c (.v (.int .i64 0)),.c (.v (.string ⟨#[]⟩)),.c (.v (.string ⟨#[]⟩)),.c (.v (.int .i64 0)),.c (.v (.int .i64 0)),.c (.v (.string ⟨#[]⟩)),.c (.sl 3 [] (some [])),.c (.sl 5 [] (some [])),.c (.v (.int .i64 0)),.c (.v (.int .i64 0)),.c (.v (.string ⟨#[]⟩)),.c (.sl 3 [] (some [])),.c (.sl 5 [] (some [])),.c (.sl 6 [] (some []))]),(4000,.blk 1 [.c (.v (.int .i64 y1)),.c (.v (.int .i64 y5)),.c (.v (.int .i64 y9)),.c (.v (.string y13)),.c (.v (.string y17)),.c (.v (.int .i64 y21)),.c (.v (.int .i64 y22)),.c (.v (.string y23)),.c (.sl 3 y24 none),.c (.sl 5 y25 none),.c (.v (.int .i64 j38)),.c (.v (.int .i64 j39)),.c (.v (.string j40)),.c (.sl 3 j41 none),.c (.sl 5 j42 none),.c (.sl 6 [] (some []))])],2⟩))∧p25_1 False fu K0 (p25_2L False fu K0 y1 y5 y9 y13 y17 y21 y22 y23 y24 y25 j38 j39 j40 j41 j42 y43 n1) y1 y5 y9 y13 y17 y21 y22 y23 y24 y25 j38 j39 j40 j41 j42 z50 z51 z52 nilE z54 j55) (fun L hL_1=>?_) ?_
 conv=>cbv
 refine br_h hO h (by subst hO;rfl) (fun k2 h=>?_) (fun k2 h=>?_)
 conv=>cbv
 refine br_t hO k2 ?_
 conv=>cbv
 refine br_t hO k2 ?_
 conv=>cbv
 refine br_t hO k2 ?_
 conv=>cbv
 refine br_t hO k2 ?_
 conv=>cbv
 refine br_t hO k2 ?_
 conv=>cbv
 exact hL_1 _ _ ⟨(z0a .eql z52 0),⟨(by (conv=>lhs;cbv)<;>(subst hO;rfl)),(by (conv=>lhs;cbv)<;>(subst hO;rfl))⟩,h⟩
 conv=>cbv
 refine br_f hO k2 ?_
 conv=>cbv
 refine br_f hO k2 ?_
 conv=>cbv
 refine br_f hO k2 ?_
 conv=>cbv
 refine br_f hO k2 ?_
 conv=>cbv
 refine br_f hO k2 ?_
 conv=>cbv
 exact hL_1 _ _ ⟨false,⟨(by (conv=>lhs;cbv)<;>(subst hO;rfl)),(by (conv=>lhs;cbv)<;>(subst hO;rfl))⟩,h⟩
 rintro tm m ⟨j55,hs,h⟩
 unfold p25_1 at h
 obtain⟨rfl,rfl⟩:=hs
 conv=>cbv
 refine br_h hO h (by subst hO;rfl) (fun k1 h=>?_) (fun k1 h=>?_)
 conv=>cbv
 refine z0b hO ?_
 conv=>cbv
 refine z0d hO [.ref 3] (d_p27 fu O.len hN h) ?_
 intro e Q a b
 conv=>cbv
 refine⟨by subst a hO;rfl,?_⟩
 intro r bs d
 rw [b] at d
 clear a b h
 obtain⟨y56,y57,y58,y59,⟨rfl,rfl⟩,h⟩:=d
 conv=>cbv
 refine z0d hO [.ref 3] (d_p26 fu O.len hN h) ?_
 intro e Q a b
 conv=>cbv
 refine⟨by subst a hO;rfl,?_⟩
 intro r bs d
 rw [b] at d
 clear a b h
 obtain⟨y60,y61,y62,y63,y64,y65,y66,y67,⟨rfl,rfl⟩,h⟩:=d
 conv=>cbv
 refine z0z hO h (fun g=>(by subst hO;exact g)) (fun h=>?_)
 conv=>cbv
 refine and_h h (fun g=>(by subst hO;exact g)) (fun h=>?_)
 refine z2i hO (by subst hO;exact List.cons_ne_nil _ _) ?_
 conv=>cbv
 exact hLn1 n1 _ _ (Nat.lt_succ_self n1) ⟨y65,y66,y67,(nilE++(List.take 1 [[(CV.v (.string y56)),(CV.v (.int .i64 y60)),(CV.v (.int .i64 y61)),(CV.v (.string y62)),(CV.sl 3 y63 none),(CV.sl 5 y64 none)]])),z0c .add .i64 z54 1,(.inr ⟨(by (conv=>lhs;cbv)<;>(subst hO;rfl)),(by (conv=>lhs;cbv)<;>(subst hO;rfl))⟩),h⟩
 conv=>cbv
 rw [b]
 exact⟨y1,y5,y9,y13,y17,y21,y22,y23,y24,y25,j38,j39,j40,j41,j42,nilE,z50,z51,z52,⟨(by subst hO;rfl),(by subst hO;rfl)⟩,h⟩
 obtain⟨rfl,rfl⟩:=hs
 conv=>cbv
 refine z0g hO tiA [0,2,3,5,6,60] [0,3000,4000,74000] [] (fun tm m=>∃ (j55:Bool),((tm=frame 0 76 [(0,.p 0 0 0),(2,.p 3000 1 0),(3,.p 4000 1 0),(5,.c (.v (.int .i64 y43))),(6,.c (.v (.int .i64 z54))),(60,.c (.v (.bool j55)))]∧m=⟨[(0,.blk 0 [.c (.sl 1 z50 none),.c (.v (.int .i64 z51)),.c (.v (.int .i64 z52))]),(3000,.blk 1 [.c (.v (.int .i64 0)),.c (.v (.int .i64 0)),.c (.v (.int .i64 0)),.c (.v (.string ⟨#[]⟩)),.c (.v (.string ⟨#[]⟩)),.c (.v (.int .i64 0)),.c (.v (.int .i64 0)),.c (.v (.string ⟨#[]⟩)),.c (.sl 3 [] (some [])),.c (.sl 5 [] (some [])),.c (.v (.int .i64 0)),.c (.v (.int .i64 0)),.c (.v (.string ⟨#[]⟩)),.c (.sl 3 [] (some [])),.c (.sl 5 [] (some [])),.c (.sl 6 [] (some []))]),(4000,.blk 1 [.c (.v (.int .i64 y1)),.c (.v (.int .i64 y5)),.c (.v (.int .i64 y9)),.c (.v (.string y13)),.c (.v (.string y17)),.c (.v (.int .i64 y21)),.c (.v (.int .i64 y22)),.c (.v (.string y23)),.c (.sl 3 y24 none),.c (.sl 5 y25 none),.c (.v (.int .i64 j38)),.c (.v (.int .i64 j39)),.c (.v (.string j40)),.c (.sl 3 j41 none),.c (.sl 5 j42 none),.t 74000 1 (O.len z53)]),(74000,.arr 1 6 z53 none false)],2⟩))∧p25_1 False fu K0 (p25_2L False fu K0 y1 y5 y9 y13 y17 y21 y22 y23 y24 y25 j38 j39 j40 j41 j42 y43 n1) y1 y5 y9 y13 y17 y21 y22 y23 y24 y25 j38 j39 j40 j41 j42 z50 z51 z52 z53 z54 j55) (fun L hL_1=>?_) ?_
 conv=>cbv
 refine br_h hO h (by subst hO;rfl) (fun k2 h=>?_) (fun k2 h=>?_)
 conv=>cbv
 refine br_t hO k2 ?_
 conv=>cbv
 refine br_t hO k2 ?_
 conv=>cbv
 refine br_t hO k2 ?_
 conv=>cbv
 refine br_t hO k2 ?_
 conv=>cbv
 refine br_t hO k2 ?_
 conv=>cbv
 exact hL_1 _ _ ⟨(z0a .eql z52 0),⟨(by (conv=>lhs;cbv)<;>(subst hO;rfl)),(by (conv=>lhs;cbv)<;>(subst hO;rfl))⟩,h⟩
 conv=>cbv
 refine br_f hO k2 ?_
 conv=>cbv
 refine br_f hO k2 ?_
 conv=>cbv
 refine br_f hO k2 ?_
 conv=>cbv
 refine br_f hO k2 ?_
 conv=>cbv
 refine br_f hO k2 ?_
 conv=>cbv
 exact hL_1 _ _ ⟨false,⟨(by (conv=>lhs;cbv)<;>(subst hO;rfl)),(by (conv=>lhs;cbv)<;>(subst hO;rfl))⟩,h⟩
 rintro tm m ⟨j55,hs,h⟩
 unfold p25_1 at h
 obtain⟨rfl,rfl⟩:=hs
 conv=>cbv
 refine br_h hO h (by subst hO;rfl) (fun k1 h=>?_) (fun k1 h=>?_)
 conv=>cbv
 refine z0b hO ?_
 conv=>cbv
 refine z0d hO [.ref 3] (d_p27 fu O.len hN h) ?_
 intro e Q a b
 conv=>cbv
 refine⟨by subst a hO;rfl,?_⟩
 intro r bs d
 rw [b] at d
 clear a b h
 obtain⟨y56,y57,y58,y59,⟨rfl,rfl⟩,h⟩:=d
 conv=>cbv
 refine z0d hO [.ref 3] (d_p26 fu O.len hN h) ?_
 intro e Q a b
 conv=>cbv
 refine⟨by subst a hO;rfl,?_⟩
 intro r bs d
 rw [b] at d
 clear a b h
 obtain⟨y60,y61,y62,y63,y64,y65,y66,y67,⟨rfl,rfl⟩,h⟩:=d
 conv=>cbv
 refine z0z hO h (fun g=>(by subst hO;exact g)) (fun h=>?_)
 conv=>cbv
 refine⟨(by subst hO;rfl),?_⟩
 refine and_h h (fun g=>(by subst hO;exact g)) (fun h=>?_)
 exact hLn1 n1 _ _ (Nat.lt_succ_self n1) ⟨y65,y66,y67,(z53++(List.take 1 [[(CV.v (.string y56)),(CV.v (.int .i64 y60)),(CV.v (.int .i64 y61)),(CV.v (.string y62)),(CV.sl 3 y63 none),(CV.sl 5 y64 none)]])),z0c .add .i64 z54 1,(.inr ⟨(by (conv=>lhs;cbv)<;>(subst hO;rfl)),(by (conv=>lhs;cbv)<;>(subst hO;rfl))⟩),h⟩
 conv=>cbv
 refine z0k hO ?_
 conv=>cbv
 rw [b]
 exact⟨y1,y5,y9,y13,y17,y21,y22,y23,y24,y25,j38,j39,j40,j41,j42,z53,z50,z51,z52,⟨(by subst hO;rfl),(by subst hO;rfl)⟩,h⟩)
 obtain⟨rfl,rfl,rfl,rfl⟩:=hs
 conv=>cbv
 refine z0d hO [.ref 3] (d_p23 fu O.len hN h) ?_
 intro e Q a b
 conv=>cbv
 refine⟨by subst a hO;rfl,?_⟩
 intro r bs d
 rw [b] at d
 clear a b h
 obtain⟨y43,y44,y45,y46,⟨rfl,rfl⟩,h⟩:=d
 conv=>cbv
 refine z0e hO tiA h (by subst hO;rfl) [0,2,3,5] [0,3000,4000] [] (fun tm m=>∃ (j47:EL) (j48:Int) (j49:Int),((tm=frame 0 76 [(0,.p 0 0 0),(2,.p 3000 1 0),(3,.p 4000 1 0),(5,.c (.v (.int .i64 y43)))]∧m=⟨[(0,.blk 0 [.c (.sl 1 j47 none),.c (.v (.int .i64 j48)),.c (.v (.int .i64 j49))]),(3000,.blk 1 [.c (.v (.int .i64 0)),.c (.v (.int .i64 0)),.c (.v (.int .i64 0)),.c (.v (.string ⟨#[]⟩)),.c (.v (.string ⟨#[]⟩)),.c (.v (.int .i64 0)),.c (.v (.int .i64 0)),.c (.v (.string ⟨#[]⟩)),.c (.sl 3 [] (some [])),.c (.sl 5 [] (some [])),.c (.v (.int .i64 0)),.c (.v (.int .i64 0)),.c (.v (.string ⟨#[]⟩)),.c (.sl 3 [] (some [])),.c (.sl 5 [] (some [])),.c (.sl 6 [] (some []))]),(4000,.blk 1 [.c (.v (.int .i64 y1)),.c (.v (.int .i64 y5)),.c (.v (.int .i64 y9)),.c (.v (.string y13)),.c (.v (.string y17)),.c (.v (.int .i64 y21)),.c (.v (.int .i64 y22)),.c (.v (.string y23)),.c (.sl 3 y24 none),.c (.sl 5 y25 none),.c (.v (.int .i64 j38)),.c (.v (.int .i64 j39)),.c (.v (.string j40)),.c (.sl 3 [] (some [])),.c (.sl 5 [] (some [])),.c (.sl 6 [] (some []))])],2⟩))∧p25_3 False fu K0 y1 y5 y9 y13 y17 y21 y22 y23 y24 y25 j38 j39 j40 nilE nilE y43 j47 j48 j49) (fun k3 h L hL_3=>?_) (fun k3 h L hL_3=>?_) ?_
 conv=>cbv
 refine z0d hO [.ref 3,.shut] (d_p46 fu O.len hN h) ?_
 intro e Q a b
 conv=>cbv
 refine⟨by subst a hO;rfl,?_⟩
 intro r bs d
 rw [b] at d
 clear a b h
 obtain⟨y68,y69,y70,_,⟨rfl,rfl⟩,h⟩:=d
 conv=>cbv
 exact hL_3 _ _ ⟨y68,y69,y70,⟨(by (conv=>lhs;cbv)<;>(subst hO;rfl)),(by (conv=>lhs;cbv)<;>(subst hO;rfl))⟩,h⟩
 conv=>cbv
 exact hL_3 _ _ ⟨y44,y45,y46,⟨(by (conv=>lhs;cbv)<;>(subst hO;rfl)),(by (conv=>lhs;cbv)<;>(subst hO;rfl))⟩,h⟩
 rintro tm m ⟨j47,j48,j49,hs,h⟩
 unfold p25_3 at h
 obtain⟨rfl,rfl⟩:=hs
 conv=>cbv
 refine z0r hO tiA [0,2,3,5,6] [0,3000,4000,74000] [] (fun (n:Nat) tm m=>∃ (z50:EL) (z51:Int) (z52:Int) (z53:EL) (z54:Int),((z53=[]∧tm=frame 0 76 [(0,.p 0 0 0),(2,.p 3000 1 0),(3,.p 4000 1 0),(5,.c (.v (.int .i64 y43))),(6,.c (.v (.int .i64 z54)))]∧m=⟨[(0,.blk 0 [.c (.sl 1 z50 none),.c (.v (.int .i64 z51)),.c (.v (.int .i64 z52))]),(3000,.blk 1 [.c (.v (.int .i64 0)),.c (.v (.int .i64 0)),.c (.v (.int .i64 0)),.c (.v (.string ⟨#[]⟩)),.c (.v (.string ⟨#[]⟩)),.c (.v (.int .i64 0)),.c (.v (.int .i64 0)),.c (.v (.string ⟨#[]⟩)),.c (.sl 3 [] (some [])),.c (.sl 5 [] (some [])),.c (.v (.int .i64 0)),.c (.v (.int .i64 0)),.c (.v (.string ⟨#[]⟩)),.c (.sl 3 [] (some [])),.c (.sl 5 [] (some [])),.c (.sl 6 [] (some []))]),(4000,.blk 1 [.c (.v (.int .i64 y1)),.c (.v (.int .i64 y5)),.c (.v (.int .i64 y9)),.c (.v (.string y13)),.c (.v (.string y17)),.c (.v (.int .i64 y21)),.c (.v (.int .i64 y22)),.c (.v (.string y23)),.c (.sl 3 y24 none),.c (.sl 5 y25 none),.c (.v (.int .i64 j38)),.c (.v (.int .i64 j39)),.c (.v (.string j40)),.c (.sl 3 [] (some [])),.c (.sl 5 [] (some [])),.c (.sl 6 [] (some []))])],2⟩)∨(tm=frame 0 76 [(0,.p 0 0 0),(2,.p 3000 1 0),(3,.p 4000 1 0),(5,.c (.v (.int .i64 y43))),(6,.c (.v (.int .i64 z54)))]∧m=⟨[(0,.blk 0 [.c (.sl 1 z50 none),.c (.v (.int .i64 z51)),.c (.v (.int .i64 z52))]),(3000,.blk 1 [.c (.v (.int .i64 0)),.c (.v (.int .i64 0)),.c (.v (.int .i64 0)),.c (.v (.string ⟨#[]⟩)),.c (.v (.string ⟨#[]⟩)),.c (.v (.int .i64 0)),.c (.v (.int .i64 0)),.c (.v (.string ⟨#[]⟩)),.c (.sl 3 [] (some [])),.c (.sl 5 [] (some [])),.c (.v (.int .i64 0)),.c (.v (.int .i64 0)),.c (.v (.string ⟨#[]⟩)),.c (.sl 3 [] (some [])),.c (.sl 5 [] (some [])),.c (.sl 6 [] (some []))]),(4000,.blk 1 [.c (.v (.int .i64 y1)),.c (.v (.int .i64 y5)),.c (.v (.int .i64 y9)),.c (.v (.string y13)),.c (.v (.string y17)),.c (.v (.int .i64 y21)),.c (.v (.int .i64 y22)),.c (.v (.string y23)),.c (.sl 3 y24 none),.c (.sl 5 y25 none),.c (.v (.int .i64 j38)),.c (.v (.int .i64 j39)),.c (.v (.string j40)),.c (.sl 3 [] (some [])),.c (.sl 5 [] (some [])),.t 74000 1 (O.len z53)]),(74000,.arr 1 6 z53 none false)],2⟩))∧p25_2L False fu K0 y1 y5 y9 y13 y17 y21 y22 y23 y24 y25 j38 j39 j40 nilE nilE y43 n z50 z51 z52 z53 z54) (fun n=>n) fu ⟨j47,j48,j49,nilE,0,(.inl ⟨rfl,(by (conv=>lhs;cbv)<;>(subst hO;rfl)),(by (conv=>lhs;cbv)<;>(subst hO;rfl))⟩),h⟩ ?_
 rintro n1 tm m L ⟨z50,z51,z52,z53,z54,hs,h⟩ hLn1
 (cases n1 with
 | zero=>rw [p25_2L] at h;exact h.elim
 | succ n1 =>
 rw [p25_2L] at h
 unfold p25_2 at h
 rcases hs with hs | hs
 obtain⟨rfl,rfl,rfl⟩:=hs
 conv=>cbv
 refine z0g hO tiA [0,2,3,5,6,60] [0,3000,4000] [] (fun tm m=>∃ (j55:Bool),((tm=frame 0 76 [(0,.p 0 0 0),(2,.p 3000 1 0),(3,.p 4000 1 0),(5,.c (.v (.int .i64 y43))),(6,.c (.v (.int .i64 z54))),(60,.c (.v (.bool j55)))]∧m=⟨[(0,.blk 0 [.c (.sl 1 z50 none),.c (.v (.int .i64 z51)),.c (.v (.int .i64 z52))]),(3000,.blk 1 [.c (.v (.int .i64 0)),.c (.v (.int .i64 0)),.c (.v (.int .i64 0)),.c (.v (.string ⟨#[]⟩)),.c (.v (.string ⟨#[]⟩)),.c (.v (.int .i64 0)),.c (.v (.int .i64 0)),.c (.v (.string ⟨#[]⟩)),.c (.sl 3 [] (some [])),.c (.sl 5 [] (some [])),.c (.v (.int .i64 0)),.c (.v (.int .i64 0)),.c (.v (.string ⟨#[]⟩)),.c (.sl 3 [] (some [])),.c (.sl 5 [] (some [])),.c (.sl 6 [] (some []))]),(4000,.blk 1 [.c (.v (.int .i64 y1)),.c (.v (.int .i64 y5)),.c (.v (.int .i64 y9)),.c (.v (.string y13)),.c (.v (.string y17)),.c (.v (.int .i64 y21)),.c (.v (.int .i64 y22)),.c (.v (.string y23)),.c (.sl 3 y24 none),.c (.sl 5 y25 none),.c (.v (.int .i64 j38)),.c (.v (.int .i64 j39)),.c (.v (.string j40)),.c (.sl 3 [] (some [])),.c (.sl 5 [] (some [])),.c (.sl 6 [] (some []))])],2⟩))∧p25_1 False fu K0 (p25_2L False fu K0 y1 y5 y9 y13 y17 y21 y22 y23 y24 y25 j38 j39 j40 nilE nilE y43 n1) y1 y5 y9 y13 y17 y21 y22 y23 y24 y25 j38 j39 j40 nilE nilE z50 z51 z52 nilE z54 j55) (fun L hL_1=>?_) ?_
 conv=>cbv
 refine br_h hO h (by subst hO;rfl) (fun k2 h=>?_) (fun k2 h=>?_)
 conv=>cbv
 refine br_t hO k2 ?_
 conv=>cbv
 refine br_t hO k2 ?_
 conv=>cbv
 refine br_t hO k2 ?_
 conv=>cbv
 refine br_t hO k2 ?_
 conv=>cbv
 refine br_t hO k2 ?_
 conv=>cbv
 exact hL_1 _ _ ⟨(z0a .eql z52 0),⟨(by (conv=>lhs;cbv)<;>(subst hO;rfl)),(by (conv=>lhs;cbv)<;>(subst hO;rfl))⟩,h⟩
 conv=>cbv
 refine br_f hO k2 ?_
 conv=>cbv
 refine br_f hO k2 ?_
 conv=>cbv
 refine br_f hO k2 ?_
 conv=>cbv
 refine br_f hO k2 ?_
 conv=>cbv
 refine br_f hO k2 ?_
 conv=>cbv
 exact hL_1 _ _ ⟨false,⟨(by (conv=>lhs;cbv)<;>(subst hO;rfl)),(by (conv=>lhs;cbv)<;>(subst hO;rfl))⟩,h⟩
 rintro tm m ⟨j55,hs,h⟩
 unfold p25_1 at h
 obtain⟨rfl,rfl⟩:=hs
 conv=>cbv
 refine br_h hO h (by subst hO;rfl) (fun k1 h=>?_) (fun k1 h=>?_)
 conv=>cbv
 refine z0b hO ?_
 conv=>cbv
 refine z0d hO [.ref 3] (d_p27 fu O.len hN h) ?_
 intro e Q a b
 conv=>cbv
 refine⟨by subst a hO;rfl,?_⟩
 intro r bs d
 rw [b] at d
 clear a b h
 obtain⟨y56,y57,y58,y59,⟨rfl,rfl⟩,h⟩:=d
 conv=>cbv
 refine z0d hO [.ref 3] (d_p26 fu O.len hN h) ?_
 intro e Q a b
 conv=>cbv
 refine⟨by subst a hO;rfl,?_⟩
 intro r bs d
 rw [b] at d
 clear a b h
 obtain⟨y60,y61,y62,y63,y64,y65,y66,y67,⟨rfl,rfl⟩,h⟩:=d
 conv=>cbv
 refine z0z hO h (fun g=>(by subst hO;exact g)) (fun h=>?_)
 conv=>cbv
 refine and_h h (fun g=>(by subst hO;exact g)) (fun h=>?_)
 refine z2i hO (by subst hO;exact List.cons_ne_nil _ _) ?_
 conv=>cbv
 exact hLn1 n1 _ _ (Nat.lt_succ_self n1) ⟨y65,y66,y67,(nilE++(List.take 1 [[(CV.v (.string y56)),(CV.v (.int .i64 y60)),(CV.v (.int .i64 y61)),(CV.v (.string y62)),(CV.sl 3 y63 none),(CV.sl 5 y64 none)]])),z0c .add .i64 z54 1,(.inr ⟨(by (conv=>lhs;cbv)<;>(subst hO;rfl)),(by (conv=>lhs;cbv)<;>(subst hO;rfl))⟩),h⟩
 conv=>cbv
 rw [b]
 exact⟨y1,y5,y9,y13,y17,y21,y22,y23,y24,y25,j38,j39,j40,nilE,nilE,nilE,z50,z51,z52,⟨(by subst hO;rfl),(by subst hO;rfl)⟩,h⟩
 obtain⟨rfl,rfl⟩:=hs
 conv=>cbv
 refine z0g hO tiA [0,2,3,5,6,60] [0,3000,4000,74000] [] (fun tm m=>∃ (j55:Bool),((tm=frame 0 76 [(0,.p 0 0 0),(2,.p 3000 1 0),(3,.p 4000 1 0),(5,.c (.v (.int .i64 y43))),(6,.c (.v (.int .i64 z54))),(60,.c (.v (.bool j55)))]∧m=⟨[(0,.blk 0 [.c (.sl 1 z50 none),.c (.v (.int .i64 z51)),.c (.v (.int .i64 z52))]),(3000,.blk 1 [.c (.v (.int .i64 0)),.c (.v (.int .i64 0)),.c (.v (.int .i64 0)),.c (.v (.string ⟨#[]⟩)),.c (.v (.string ⟨#[]⟩)),.c (.v (.int .i64 0)),.c (.v (.int .i64 0)),.c (.v (.string ⟨#[]⟩)),.c (.sl 3 [] (some [])),.c (.sl 5 [] (some [])),.c (.v (.int .i64 0)),.c (.v (.int .i64 0)),.c (.v (.string ⟨#[]⟩)),.c (.sl 3 [] (some [])),.c (.sl 5 [] (some [])),.c (.sl 6 [] (some []))]),(4000,.blk 1 [.c (.v (.int .i64 y1)),.c (.v (.int .i64 y5)),.c (.v (.int .i64 y9)),.c (.v (.string y13)),.c (.v (.string y17)),.c (.v (.int .i64 y21)),.c (.v (.int .i64 y22)),.c (.v (.string y23)),.c (.sl 3 y24 none),.c (.sl 5 y25 none),.c (.v (.int .i64 j38)),.c (.v (.int .i64 j39)),.c (.v (.string j40)),.c (.sl 3 [] (some [])),.c (.sl 5 [] (some [])),.t 74000 1 (O.len z53)]),(74000,.arr 1 6 z53 none false)],2⟩))∧p25_1 False fu K0 (p25_2L False fu K0 y1 y5 y9 y13 y17 y21 y22 y23 y24 y25 j38 j39 j40 nilE nilE y43 n1) y1 y5 y9 y13 y17 y21 y22 y23 y24 y25 j38 j39 j40 nilE nilE z50 z51 z52 z53 z54 j55) (fun L hL_1=>?_) ?_
 conv=>cbv
 refine br_h hO h (by subst hO;rfl) (fun k2 h=>?_) (fun k2 h=>?_)
 conv=>cbv
 refine br_t hO k2 ?_
 conv=>cbv
 refine br_t hO k2 ?_
 conv=>cbv
 refine br_t hO k2 ?_
 conv=>cbv
 refine br_t hO k2 ?_
 conv=>cbv
 refine br_t hO k2 ?_
 conv=>cbv
 exact hL_1 _ _ ⟨(z0a .eql z52 0),⟨(by (conv=>lhs;cbv)<;>(subst hO;rfl)),(by (conv=>lhs;cbv)<;>(subst hO;rfl))⟩,h⟩
 conv=>cbv
 refine br_f hO k2 ?_
 conv=>cbv
 refine br_f hO k2 ?_
 conv=>cbv
 refine br_f hO k2 ?_
 conv=>cbv
 refine br_f hO k2 ?_
 conv=>cbv
 refine br_f hO k2 ?_
 conv=>cbv
 exact hL_1 _ _ ⟨false,⟨(by (conv=>lhs;cbv)<;>(subst hO;rfl)),(by (conv=>lhs;cbv)<;>(subst hO;rfl))⟩,h⟩
 rintro tm m ⟨j55,hs,h⟩
 unfold p25_1 at h
 obtain⟨rfl,rfl⟩:=hs
 conv=>cbv
 refine br_h hO h (by subst hO;rfl) (fun k1 h=>?_) (fun k1 h=>?_)
 conv=>cbv
 refine z0b hO ?_
 conv=>cbv
 refine z0d hO [.ref 3] (d_p27 fu O.len hN h) ?_
 intro e Q a b
 conv=>cbv
 refine⟨by subst a hO;rfl,?_⟩
 intro r bs d
 rw [b] at d
 clear a b h
 obtain⟨y56,y57,y58,y59,⟨rfl,rfl⟩,h⟩:=d
 conv=>cbv
 refine z0d hO [.ref 3] (d_p26 fu O.len hN h) ?_
 intro e Q a b
 conv=>cbv
 refine⟨by subst a hO;rfl,?_⟩
 intro r bs d
 rw [b] at d
 clear a b h
 obtain⟨y60,y61,y62,y63,y64,y65,y66,y67,⟨rfl,rfl⟩,h⟩:=d
 conv=>cbv
 refine z0z hO h (fun g=>(by subst hO;exact g)) (fun h=>?_)
 conv=>cbv
 refine⟨(by subst hO;rfl),?_⟩
 refine and_h h (fun g=>(by subst hO;exact g)) (fun h=>?_)
 exact hLn1 n1 _ _ (Nat.lt_succ_self n1) ⟨y65,y66,y67,(z53++(List.take 1 [[(CV.v (.string y56)),(CV.v (.int .i64 y60)),(CV.v (.int .i64 y61)),(CV.v (.string y62)),(CV.sl 3 y63 none),(CV.sl 5 y64 none)]])),z0c .add .i64 z54 1,(.inr ⟨(by (conv=>lhs;cbv)<;>(subst hO;rfl)),(by (conv=>lhs;cbv)<;>(subst hO;rfl))⟩),h⟩
 conv=>cbv
 refine z0k hO ?_
 conv=>cbv
 rw [b]
 exact⟨y1,y5,y9,y13,y17,y21,y22,y23,y24,y25,j38,j39,j40,nilE,nilE,z53,z50,z51,z52,⟨(by subst hO;rfl),(by subst hO;rfl)⟩,h⟩)
theorem d_p7 (fu:Nat){K0:Int→Int→Int→Int→Int→Int→Int→Int→Int→Int→Int→ByteArray→ByteArray→Int→Int→ByteArray→EL→EL→Int→Int→ByteArray→EL→EL→EL→Int→Int→ByteArray→EL→EL→Int→Int→ByteArray→EL→EL→Int→Prop}(L:EL→Nat)(hN:L=List.length){x0:EL}(h:p7 False fu K0 x0):Den Try.prog G0 7 [.c (.sl 1 x0 none)] (fun r bs=>(∃ (y0 y1 y2 y3 y4 y5 y6 y7 y8 y9 y10:Int) (y11 y12:ByteArray) (y13 y14:Int) (y15:ByteArray) (y16 y17:EL) (y18 y19:Int) (y20:ByteArray) (y21 y22 y23:EL) (y24 y25:Int) (y26:ByteArray) (y27 y28:EL) (y29 y30:Int) (y31:ByteArray) (y32 y33:EL) (y34:Int) (o0:OV),(r=.tup [.agg [.c (.v (.int .i64 y0)),.c (.v (.int .i64 y1)),.c (.v (.int .i64 y2)),.c (.v (.int .i64 y3)),.c (.v (.int .u64 y4)),.c (.v (.int .u64 y5)),.c (.v (.int .u64 y6)),.c (.v (.int .u64 y7)),.c (.v (.int .i64 y8)),.c (.v (.int .i64 y9)),.c (.v (.int .i64 y10)),.c (.v (.string y11)),.c (.v (.string y12)),.c (.v (.int .i64 y13)),.c (.v (.int .i64 y14)),.c (.v (.string y15)),.c (.sl 3 y16 none),.c (.sl 5 y17 none),.c (.v (.int .i64 y18)),.c (.v (.int .i64 y19)),.c (.v (.string y20)),.c (.sl 3 y21 none),.c (.sl 5 y22 none),.c (.sl 6 y23 none),.c (.v (.int .i64 y24)),.c (.v (.int .i64 y25)),.c (.v (.string y26)),.c (.sl 3 y27 none),.c (.sl 5 y28 none),.c (.v (.int .i64 y29)),.c (.v (.int .i64 y30)),.c (.v (.string y31)),.c (.sl 3 y32 none),.c (.sl 5 y33 none)],.c (.v (.int .i64 y34))]∧bs=[o0])∧K0 y0 y1 y2 y3 y4 y5 y6 y7 y8 y9 y10 y11 y12 y13 y14 y15 y16 y17 y18 y19 y20 y21 y22 y23 y24 y25 y26 y27 y28 y29 y30 y31 y32 y33 y34)):=by
 obtain⟨O,hO⟩:∃ O,O=std 0 T G0 (Den Try.prog G0):=⟨_,rfl⟩
 have hLO:L=O.len:=by rw [hN,hO];rfl
 subst hLO
 refine den_h hO tiA mixed tabOk (fn:=Try.f7) (sh:=true) (by kernel_rfl) rfl rfl rfl rfl ?_
 intro Q b
 unfold p7 at h
 conv=>cbv
 refine z0d hO [.shut] (d_p21 fu O.len hN h) ?_
 intro e Q a b
 conv=>cbv
 refine⟨by subst a hO;rfl,?_⟩
 intro r bs d
 rw [b] at d
 clear a b h
 obtain⟨y1,y2,y3,_,⟨rfl,rfl⟩,h⟩:=d
 conv=>cbv
 refine br_h hO h (by subst hO;rfl) (fun k1 h=>?_) (fun k1 h=>?_)
 conv=>cbv
 rw [b]
 exact⟨0,0,0,0,0,0,0,0,0,0,0,⟨#[]⟩,⟨#[]⟩,0,0,⟨#[]⟩,nilE,nilE,0,0,⟨#[]⟩,nilE,nilE,nilE,0,0,⟨#[]⟩,nilE,nilE,0,0,⟨#[]⟩,nilE,nilE,y3,_,⟨(by subst hO;rfl),(by subst hO;rfl)⟩,h⟩
 conv=>cbv
 refine z0b hO ?_
 conv=>cbv
 refine br_h hO h (by subst hO;rfl) (fun k2 h=>?_) (fun k2 h=>?_)
 conv=>cbv
 rw [b]
 exact⟨0,0,0,0,0,0,0,0,0,0,0,⟨#[]⟩,⟨#[]⟩,0,0,⟨#[]⟩,nilE,nilE,0,0,⟨#[]⟩,nilE,nilE,nilE,0,0,⟨#[]⟩,nilE,nilE,0,0,⟨#[]⟩,nilE,nilE,5,_,⟨(by subst hO;rfl),(by subst hO;rfl)⟩,h⟩
 conv=>cbv
 refine z0b hO ?_
 conv=>cbv
 refine z0d hO [.shut] (d_p22 fu O.len hN h) ?_
 intro e Q a b
 conv=>cbv
 refine⟨by subst a hO;rfl,?_⟩
 intro r bs d
 rw [b] at d
 clear a b h
 obtain⟨y4,y5,_,⟨rfl,rfl⟩,h⟩:=d
 conv=>cbv
 refine br_h hO h (by subst hO;rfl) (fun k3 h=>?_) (fun k3 h=>?_)
 conv=>cbv
 rw [b]
 exact⟨0,0,0,0,0,0,0,0,0,0,0,⟨#[]⟩,⟨#[]⟩,0,0,⟨#[]⟩,nilE,nilE,0,0,⟨#[]⟩,nilE,nilE,nilE,0,0,⟨#[]⟩,nilE,nilE,0,0,⟨#[]⟩,nilE,nilE,5,_,⟨(by subst hO;rfl),(by subst hO;rfl)⟩,h⟩
 conv=>cbv
 refine z0b hO ?_
 conv=>cbv
 refine z0r hO tiA [0,2,7,8,10,11] [3000,8000,41000,7777777] [] (fun (n:Nat) tm m=>∃ (z6:Int) (z7:Int) (z8:Int) (z9:Int) (z10:Int) (z11:Int) (z12:Int) (z13:Int) (z14:Int) (z15:Int) (z16:Int) (z17:ByteArray) (z18:ByteArray) (z19:Int) (z20:Int) (z21:ByteArray) (z22:EL) (z23:EL) (z24:Int) (z25:Int) (z26:ByteArray) (z27:EL) (z28:EL) (z29:EL) (z30:Int) (z31:Int) (z32:ByteArray) (z33:EL) (z34:EL) (z35:Int) (z36:Int) (z37:ByteArray) (z38:EL) (z39:EL) (z40:EL) (z41:Int) (z42:Int) (z43:Int),((tm=frame 0 120 [(0,.c (.sl 1 x0 none)),(2,.p 3000 0 0),(7,.p 8000 0 0),(8,.c (.v (.string y4))),(10,.p 41000 0 0),(11,.c (.v (.int .i64 z43)))]∧m=⟨[(3000,.blk 0 [.c (.v (.int .i64 0)),.c (.v (.int .i64 0)),.c (.v (.int .i64 0)),.c (.v (.int .i64 0)),.c (.v (.int .u64 0)),.c (.v (.int .u64 0)),.c (.v (.int .u64 0)),.c (.v (.int .u64 0)),.c (.v (.int .i64 0)),.c (.v (.int .i64 0)),.c (.v (.int .i64 0)),.c (.v (.string ⟨#[]⟩)),.c (.v (.string ⟨#[]⟩)),.c (.v (.int .i64 0)),.c (.v (.int .i64 0)),.c (.v (.string ⟨#[]⟩)),.c (.sl 3 nilE none),.c (.sl 5 nilE none),.c (.v (.int .i64 0)),.c (.v (.int .i64 0)),.c (.v (.string ⟨#[]⟩)),.c (.sl 3 nilE none),.c (.sl 5 nilE none),.c (.sl 6 nilE none),.c (.v (.int .i64 0)),.c (.v (.int .i64 0)),.c (.v (.string ⟨#[]⟩)),.c (.sl 3 nilE none),.c (.sl 5 nilE none),.c (.v (.int .i64 0)),.c (.v (.int .i64 0)),.c (.v (.string ⟨#[]⟩)),.c (.sl 3 nilE none),.c (.sl 5 nilE none)]),(8000,.blk 0 [.c (.v (.int .i64 z6)),.c (.v (.int .i64 z7)),.c (.v (.int .i64 z8)),.c (.v (.int .i64 z9)),.c (.v (.int .u64 z10)),.c (.v (.int .u64 z11)),.c (.v (.int .u64 z12)),.c (.v (.int .u64 z13)),.c (.v (.int .i64 z14)),.c (.v (.int .i64 z15)),.c (.v (.int .i64 z16)),.c (.v (.string z17)),.c (.v (.string z18)),.c (.v (.int .i64 z19)),.c (.v (.int .i64 z20)),.c (.v (.string z21)),.c (.sl 3 z22 none),.c (.sl 5 z23 none),.c (.v (.int .i64 z24)),.c (.v (.int .i64 z25)),.c (.v (.string z26)),.c (.sl 3 z27 none),.c (.sl 5 z28 none),.c (.sl 6 z29 none),.c (.v (.int .i64 z30)),.c (.v (.int .i64 z31)),.c (.v (.string z32)),.c (.sl 3 z33 none),.c (.sl 5 z34 none),.c (.v (.int .i64 z35)),.c (.v (.int .i64 z36)),.c (.v (.string z37)),.c (.sl 3 z38 none),.c (.sl 5 z39 none)]),(41000,.blk 0 [.c (.sl 1 z40 none),.c (.v (.int .i64 z41)),.c (.v (.int .i64 z42))])],1⟩))∧p7_10L False fu K0 x0 y4 n z6 z7 z8 z9 z10 z11 z12 z13 z14 z15 z16 z17 z18 z19 z20 z21 z22 z23 z24 z25 z26 z27 z28 z29 z30 z31 z32 z33 z34 z35 z36 z37 z38 z39 z40 z41 z42 z43) (fun n=>n) fu ⟨IntKind.i64.wrap y1,0,0,0,0,0,0,0,0,0,0,⟨#[]⟩,⟨#[]⟩,0,0,⟨#[]⟩,nilE,nilE,0,0,⟨#[]⟩,nilE,nilE,nilE,0,0,⟨#[]⟩,nilE,nilE,0,0,⟨#[]⟩,nilE,nilE,x0,y2,0,0,⟨(by (conv=>lhs;cbv)<;>(subst hO;rfl)),(by (conv=>lhs;cbv)<;>(subst hO;rfl))⟩,h⟩ ?_
 rintro n1 tm m L ⟨z6,z7,z8,z9,z10,z11,z12,z13,z14,z15,z16,z17,z18,z19,z20,z21,z22,z23,z24,z25,z26,z27,z28,z29,z30,z31,z32,z33,z34,z35,z36,z37,z38,z39,z40,z41,z42,z43,hs,h⟩ hLn1
 (cases n1 with
 | zero=>rw [p7_10L] at h;exact h.elim
 | succ n1 =>
 rw [p7_10L] at h
 unfold p7_10 at h
 obtain⟨rfl,rfl⟩:=hs
 conv=>cbv
 refine z0g hO tiA [0,2,7,8,10,11,51] [3000,8000,41000,7777777] [] (fun tm m=>∃ (j44:Bool),((tm=frame 0 120 [(0,.c (.sl 1 x0 none)),(2,.p 3000 0 0),(7,.p 8000 0 0),(8,.c (.v (.string y4))),(10,.p 41000 0 0),(11,.c (.v (.int .i64 z43))),(51,.c (.v (.bool j44)))]∧m=⟨[(3000,.blk 0 [.c (.v (.int .i64 0)),.c (.v (.int .i64 0)),.c (.v (.int .i64 0)),.c (.v (.int .i64 0)),.c (.v (.int .u64 0)),.c (.v (.int .u64 0)),.c (.v (.int .u64 0)),.c (.v (.int .u64 0)),.c (.v (.int .i64 0)),.c (.v (.int .i64 0)),.c (.v (.int .i64 0)),.c (.v (.string ⟨#[]⟩)),.c (.v (.string ⟨#[]⟩)),.c (.v (.int .i64 0)),.c (.v (.int .i64 0)),.c (.v (.string ⟨#[]⟩)),.c (.sl 3 nilE none),.c (.sl 5 nilE none),.c (.v (.int .i64 0)),.c (.v (.int .i64 0)),.c (.v (.string ⟨#[]⟩)),.c (.sl 3 nilE none),.c (.sl 5 nilE none),.c (.sl 6 nilE none),.c (.v (.int .i64 0)),.c (.v (.int .i64 0)),.c (.v (.string ⟨#[]⟩)),.c (.sl 3 nilE none),.c (.sl 5 nilE none),.c (.v (.int .i64 0)),.c (.v (.int .i64 0)),.c (.v (.string ⟨#[]⟩)),.c (.sl 3 nilE none),.c (.sl 5 nilE none)]),(8000,.blk 0 [.c (.v (.int .i64 z6)),.c (.v (.int .i64 z7)),.c (.v (.int .i64 z8)),.c (.v (.int .i64 z9)),.c (.v (.int .u64 z10)),.c (.v (.int .u64 z11)),.c (.v (.int .u64 z12)),.c (.v (.int .u64 z13)),.c (.v (.int .i64 z14)),.c (.v (.int .i64 z15)),.c (.v (.int .i64 z16)),.c (.v (.string z17)),.c (.v (.string z18)),.c (.v (.int .i64 z19)),.c (.v (.int .i64 z20)),.c (.v (.string z21)),.c (.sl 3 z22 none),.c (.sl 5 z23 none),.c (.v (.int .i64 z24)),.c (.v (.int .i64 z25)),.c (.v (.string z26)),.c (.sl 3 z27 none),.c (.sl 5 z28 none),.c (.sl 6 z29 none),.c (.v (.int .i64 z30)),.c (.v (.int .i64 z31)),.c (.v (.string z32)),.c (.sl 3 z33 none),.c (.sl 5 z34 none),.c (.v (.int .i64 z35)),.c (.v (.int .i64 z36)),.c (.v (.string z37)),.c (.sl 3 z38 none),.c (.sl 5 z39 none)]),(41000,.blk 0 [.c (.sl 1 z40 none),.c (.v (.int .i64 z41)),.c (.v (.int .i64 z42))])],1⟩))∧p7_9 False fu K0 (p7_10L False fu K0 x0 y4 n1) x0 y4 z6 z7 z8 z9 z10 z11 z12 z13 z14 z15 z16 z17 z18 z19 z20 z21 z22 z23 z24 z25 z26 z27 z28 z29 z30 z31 z32 z33 z34 z35 z36 z37 z38 z39 z40 z41 z42 z43 j44) (fun L hL_9=>?_) ?_
 conv=>cbv
 refine br_h hO h (by subst hO;rfl) (fun k15 h=>?_) (fun k15 h=>?_)
 conv=>cbv
 refine br_t hO k15 ?_
 conv=>cbv
 refine br_t hO k15 ?_
 conv=>cbv
 refine br_t hO k15 ?_
 conv=>cbv
 refine br_t hO k15 ?_
 conv=>cbv
 refine br_t hO k15 ?_
 conv=>cbv
 exact hL_9 _ _ ⟨(z0a .eql z42 0),⟨(by (conv=>lhs;cbv)<;>(subst hO;rfl)),(by (conv=>lhs;cbv)<;>(subst hO;rfl))⟩,h⟩
 conv=>cbv
 refine br_f hO k15 ?_
 conv=>cbv
 refine br_f hO k15 ?_
 conv=>cbv
 refine br_f hO k15 ?_
 conv=>cbv
 refine br_f hO k15 ?_
 conv=>cbv
 refine br_f hO k15 ?_
 conv=>cbv
 exact hL_9 _ _ ⟨false,⟨(by (conv=>lhs;cbv)<;>(subst hO;rfl)),(by (conv=>lhs;cbv)<;>(subst hO;rfl))⟩,h⟩
 rintro tm m ⟨j44,hs,h⟩
 unfold p7_9 at h
 obtain⟨rfl,rfl⟩:=hs
 conv=>cbv
 refine br_h hO h (by subst hO;rfl) (fun k4 h=>?_) (fun k4 h=>?_)
 conv=>cbv
 refine z0b hO ?_
 conv=>cbv
 refine and_h h (fun g=>(by subst hO;exact g)) (fun h=>?_)
 refine and_h h (fun g=>(by subst hO;exact g)) (fun h=>?_)
 refine z0e hO tiA h (by subst hO;rfl) [0,2,7,8,10,11] [3000,8000,41000,7777777] [] (fun tm m=>∃ (j45:Int) (j46:Int) (j47:Int) (j48:Int) (j49:Int) (j50:Int) (j51:Int) (j52:Int) (j53:Int) (j54:Int) (j55:ByteArray) (j56:ByteArray) (j57:Int) (j58:Int) (j59:ByteArray) (j60:EL) (j61:EL) (j62:Int) (j63:Int) (j64:ByteArray) (j65:EL) (j66:EL) (j67:EL) (j68:Int) (j69:Int) (j70:ByteArray) (j71:EL) (j72:EL) (j73:Int) (j74:Int) (j75:ByteArray) (j76:EL) (j77:EL) (j78:EL) (j79:Int) (j80:Int),((tm=frame 0 120 [(0,.c (.sl 1 x0 none)),(2,.p 3000 0 0),(7,.p 8000 0 0),(8,.c (.v (.string y4))),(10,.p 41000 0 0),(11,.c (.v (.int .i64 z43)))]∧m=⟨[(3000,.blk 0 [.c (.v (.int .i64 0)),.c (.v (.int .i64 0)),.c (.v (.int .i64 0)),.c (.v (.int .i64 0)),.c (.v (.int .u64 0)),.c (.v (.int .u64 0)),.c (.v (.int .u64 0)),.c (.v (.int .u64 0)),.c (.v (.int .i64 0)),.c (.v (.int .i64 0)),.c (.v (.int .i64 0)),.c (.v (.string ⟨#[]⟩)),.c (.v (.string ⟨#[]⟩)),.c (.v (.int .i64 0)),.c (.v (.int .i64 0)),.c (.v (.string ⟨#[]⟩)),.c (.sl 3 nilE none),.c (.sl 5 nilE none),.c (.v (.int .i64 0)),.c (.v (.int .i64 0)),.c (.v (.string ⟨#[]⟩)),.c (.sl 3 nilE none),.c (.sl 5 nilE none),.c (.sl 6 nilE none),.c (.v (.int .i64 0)),.c (.v (.int .i64 0)),.c (.v (.string ⟨#[]⟩)),.c (.sl 3 nilE none),.c (.sl 5 nilE none),.c (.v (.int .i64 0)),.c (.v (.int .i64 0)),.c (.v (.string ⟨#[]⟩)),.c (.sl 3 nilE none),.c (.sl 5 nilE none)]),(8000,.blk 0 [.c (.v (.int .i64 z6)),.c (.v (.int .i64 j45)),.c (.v (.int .i64 j46)),.c (.v (.int .i64 j47)),.c (.v (.int .u64 j48)),.c (.v (.int .u64 j49)),.c (.v (.int .u64 j50)),.c (.v (.int .u64 j51)),.c (.v (.int .i64 j52)),.c (.v (.int .i64 j53)),.c (.v (.int .i64 j54)),.c (.v (.string j55)),.c (.v (.string j56)),.c (.v (.int .i64 j57)),.c (.v (.int .i64 j58)),.c (.v (.string j59)),.c (.sl 3 j60 none),.c (.sl 5 j61 none),.c (.v (.int .i64 j62)),.c (.v (.int .i64 j63)),.c (.v (.string j64)),.c (.sl 3 j65 none),.c (.sl 5 j66 none),.c (.sl 6 j67 none),.c (.v (.int .i64 j68)),.c (.v (.int .i64 j69)),.c (.v (.string j70)),.c (.sl 3 j71 none),.c (.sl 5 j72 none),.c (.v (.int .i64 j73)),.c (.v (.int .i64 j74)),.c (.v (.string j75)),.c (.sl 3 j76 none),.c (.sl 5 j77 none)]),(41000,.blk 0 [.c (.sl 1 j78 none),.c (.v (.int .i64 j79)),.c (.v (.int .i64 j80))])],1⟩))∧p7_1 False fu K0 (p7_10L False fu K0 x0 y4 n1) z6 z43 j45 j46 j47 j48 j49 j50 j51 j52 j53 j54 j55 j56 j57 j58 j59 j60 j61 j62 j63 j64 j65 j66 j67 j68 j69 j70 j71 j72 j73 j74 j75 j76 j77 j78 j79 j80) (fun k5 h L hL_1=>?_) (fun k5 h L hL_1=>?_) ?_
 conv=>cbv
 refine z0d hO [.ref 3] (d_p23 fu O.len hN h) ?_
 intro e Q a b
 conv=>cbv
 refine⟨by subst a hO;rfl,?_⟩
 intro r bs d
 rw [b] at d
 clear a b h
 obtain⟨y81,y82,y83,y84,⟨rfl,rfl⟩,h⟩:=d
 conv=>cbv
 refine z0d hO [.ref 3] (d_p23 fu O.len hN h) ?_
 intro e Q a b
 conv=>cbv
 refine⟨by subst a hO;rfl,?_⟩
 intro r bs d
 rw [b] at d
 clear a b h
 obtain⟨y85,y86,y87,y88,⟨rfl,rfl⟩,h⟩:=d
 conv=>cbv
 exact hL_1 _ _ ⟨z7,y81,y85,z10,z11,z12,z13,z14,z15,z16,z17,z18,z19,z20,z21,z22,z23,z24,z25,z26,z27,z28,z29,z30,z31,z32,z33,z34,z35,z36,z37,z38,z39,y86,y87,y88,⟨(by (conv=>lhs;cbv)<;>(subst hO;rfl)),(by (conv=>lhs;cbv)<;>(subst hO;rfl))⟩,h⟩
 conv=>cbv
 refine z0e hO tiA h (by subst hO;rfl) [0,2,7,8,10,11] [3000,8000,41000,7777777] [] (fun tm m=>∃ (j89:Int) (j90:Int) (j91:Int) (j92:Int) (j93:Int) (j94:Int) (j95:Int) (j96:Int) (j97:ByteArray) (j98:ByteArray) (j99:Int) (j100:Int) (j101:ByteArray) (j102:EL) (j103:EL) (j104:Int) (j105:Int) (j106:ByteArray) (j107:EL) (j108:EL) (j109:EL) (j110:Int) (j111:Int) (j112:ByteArray) (j113:EL) (j114:EL) (j115:Int) (j116:Int) (j117:ByteArray) (j118:EL) (j119:EL) (j120:EL) (j121:Int) (j122:Int),((tm=frame 0 120 [(0,.c (.sl 1 x0 none)),(2,.p 3000 0 0),(7,.p 8000 0 0),(8,.c (.v (.string y4))),(10,.p 41000 0 0),(11,.c (.v (.int .i64 z43)))]∧m=⟨[(3000,.blk 0 [.c (.v (.int .i64 0)),.c (.v (.int .i64 0)),.c (.v (.int .i64 0)),.c (.v (.int .i64 0)),.c (.v (.int .u64 0)),.c (.v (.int .u64 0)),.c (.v (.int .u64 0)),.c (.v (.int .u64 0)),.c (.v (.int .i64 0)),.c (.v (.int .i64 0)),.c (.v (.int .i64 0)),.c (.v (.string ⟨#[]⟩)),.c (.v (.string ⟨#[]⟩)),.c (.v (.int .i64 0)),.c (.v (.int .i64 0)),.c (.v (.string ⟨#[]⟩)),.c (.sl 3 nilE none),.c (.sl 5 nilE none),.c (.v (.int .i64 0)),.c (.v (.int .i64 0)),.c (.v (.string ⟨#[]⟩)),.c (.sl 3 nilE none),.c (.sl 5 nilE none),.c (.sl 6 nilE none),.c (.v (.int .i64 0)),.c (.v (.int .i64 0)),.c (.v (.string ⟨#[]⟩)),.c (.sl 3 nilE none),.c (.sl 5 nilE none),.c (.v (.int .i64 0)),.c (.v (.int .i64 0)),.c (.v (.string ⟨#[]⟩)),.c (.sl 3 nilE none),.c (.sl 5 nilE none)]),(8000,.blk 0 [.c (.v (.int .i64 z6)),.c (.v (.int .i64 j89)),.c (.v (.int .i64 z8)),.c (.v (.int .i64 z9)),.c (.v (.int .u64 j90)),.c (.v (.int .u64 j91)),.c (.v (.int .u64 j92)),.c (.v (.int .u64 j93)),.c (.v (.int .i64 j94)),.c (.v (.int .i64 j95)),.c (.v (.int .i64 j96)),.c (.v (.string j97)),.c (.v (.string j98)),.c (.v (.int .i64 j99)),.c (.v (.int .i64 j100)),.c (.v (.string j101)),.c (.sl 3 j102 none),.c (.sl 5 j103 none),.c (.v (.int .i64 j104)),.c (.v (.int .i64 j105)),.c (.v (.string j106)),.c (.sl 3 j107 none),.c (.sl 5 j108 none),.c (.sl 6 j109 none),.c (.v (.int .i64 j110)),.c (.v (.int .i64 j111)),.c (.v (.string j112)),.c (.sl 3 j113 none),.c (.sl 5 j114 none),.c (.v (.int .i64 j115)),.c (.v (.int .i64 j116)),.c (.v (.string j117)),.c (.sl 3 j118 none),.c (.sl 5 j119 none)]),(41000,.blk 0 [.c (.sl 1 j120 none),.c (.v (.int .i64 j121)),.c (.v (.int .i64 j122))])],1⟩))∧p7_2 False fu K0 (p7_10L False fu K0 x0 y4 n1) z6 z8 z9 z43 j89 j90 j91 j92 j93 j94 j95 j96 j97 j98 j99 j100 j101 j102 j103 j104 j105 j106 j107 j108 j109 j110 j111 j112 j113 j114 j115 j116 j117 j118 j119 j120 j121 j122) (fun k6 h L hL_2=>?_) (fun k6 h L hL_2=>?_) ?_
 conv=>cbv
 refine z0d hO [.ref 3] (d_p24 fu O.len hN h) ?_
 intro e Q a b
 conv=>cbv
 refine⟨by subst a hO;rfl,?_⟩
 intro r bs d
 rw [b] at d
 clear a b h
 obtain⟨y123,y124,y125,y126,y127,⟨rfl,rfl⟩,h⟩:=d
 conv=>cbv
 exact hL_2 _ _ ⟨z7,y123,y124,z12,z13,z14,z15,z16,z17,z18,z19,z20,z21,z22,z23,z24,z25,z26,z27,z28,z29,z30,z31,z32,z33,z34,z35,z36,z37,z38,z39,y125,y126,y127,⟨(by (conv=>lhs;cbv)<;>(subst hO;rfl)),(by (conv=>lhs;cbv)<;>(subst hO;rfl))⟩,h⟩
 conv=>cbv
 refine z0e hO tiA h (by subst hO;rfl) [0,2,7,8,10,11] [3000,8000,41000,7777777] [] (fun tm m=>∃ (j128:Int) (j129:Int) (j130:Int) (j131:Int) (j132:Int) (j133:Int) (j134:ByteArray) (j135:ByteArray) (j136:Int) (j137:Int) (j138:ByteArray) (j139:EL) (j140:EL) (j141:Int) (j142:Int) (j143:ByteArray) (j144:EL) (j145:EL) (j146:EL) (j147:Int) (j148:Int) (j149:ByteArray) (j150:EL) (j151:EL) (j152:Int) (j153:Int) (j154:ByteArray) (j155:EL) (j156:EL) (j157:EL) (j158:Int) (j159:Int),((tm=frame 0 120 [(0,.c (.sl 1 x0 none)),(2,.p 3000 0 0),(7,.p 8000 0 0),(8,.c (.v (.string y4))),(10,.p 41000 0 0),(11,.c (.v (.int .i64 z43)))]∧m=⟨[(3000,.blk 0 [.c (.v (.int .i64 0)),.c (.v (.int .i64 0)),.c (.v (.int .i64 0)),.c (.v (.int .i64 0)),.c (.v (.int .u64 0)),.c (.v (.int .u64 0)),.c (.v (.int .u64 0)),.c (.v (.int .u64 0)),.c (.v (.int .i64 0)),.c (.v (.int .i64 0)),.c (.v (.int .i64 0)),.c (.v (.string ⟨#[]⟩)),.c (.v (.string ⟨#[]⟩)),.c (.v (.int .i64 0)),.c (.v (.int .i64 0)),.c (.v (.string ⟨#[]⟩)),.c (.sl 3 nilE none),.c (.sl 5 nilE none),.c (.v (.int .i64 0)),.c (.v (.int .i64 0)),.c (.v (.string ⟨#[]⟩)),.c (.sl 3 nilE none),.c (.sl 5 nilE none),.c (.sl 6 nilE none),.c (.v (.int .i64 0)),.c (.v (.int .i64 0)),.c (.v (.string ⟨#[]⟩)),.c (.sl 3 nilE none),.c (.sl 5 nilE none),.c (.v (.int .i64 0)),.c (.v (.int .i64 0)),.c (.v (.string ⟨#[]⟩)),.c (.sl 3 nilE none),.c (.sl 5 nilE none)]),(8000,.blk 0 [.c (.v (.int .i64 z6)),.c (.v (.int .i64 j128)),.c (.v (.int .i64 z8)),.c (.v (.int .i64 z9)),.c (.v (.int .u64 z10)),.c (.v (.int .u64 z11)),.c (.v (.int .u64 j129)),.c (.v (.int .u64 j130)),.c (.v (.int .i64 j131)),.c (.v (.int .i64 j132)),.c (.v (.int .i64 j133)),.c (.v (.string j134)),.c (.v (.string j135)),.c (.v (.int .i64 j136)),.c (.v (.int .i64 j137)),.c (.v (.string j138)),.c (.sl 3 j139 none),.c (.sl 5 j140 none),.c (.v (.int .i64 j141)),.c (.v (.int .i64 j142)),.c (.v (.string j143)),.c (.sl 3 j144 none),.c (.sl 5 j145 none),.c (.sl 6 j146 none),.c (.v (.int .i64 j147)),.c (.v (.int .i64 j148)),.c (.v (.string j149)),.c (.sl 3 j150 none),.c (.sl 5 j151 none),.c (.v (.int .i64 j152)),.c (.v (.int .i64 j153)),.c (.v (.string j154)),.c (.sl 3 j155 none),.c (.sl 5 j156 none)]),(41000,.blk 0 [.c (.sl 1 j157 none),.c (.v (.int .i64 j158)),.c (.v (.int .i64 j159))])],1⟩))∧p7_3 False fu K0 (p7_10L False fu K0 x0 y4 n1) z6 z8 z9 z10 z11 z43 j128 j129 j130 j131 j132 j133 j134 j135 j136 j137 j138 j139 j140 j141 j142 j143 j144 j145 j146 j147 j148 j149 j150 j151 j152 j153 j154 j155 j156 j157 j158 j159) (fun k7 h L hL_3=>?_) (fun k7 h L hL_3=>?_) ?_
 conv=>cbv
 refine z0d hO [.ref 3] (d_p24 fu O.len hN h) ?_
 intro e Q a b
 conv=>cbv
 refine⟨by subst a hO;rfl,?_⟩
 intro r bs d
 rw [b] at d
 clear a b h
 obtain⟨y160,y161,y162,y163,y164,⟨rfl,rfl⟩,h⟩:=d
 conv=>cbv
 exact hL_3 _ _ ⟨z7,y160,y161,z14,z15,z16,z17,z18,z19,z20,z21,z22,z23,z24,z25,z26,z27,z28,z29,z30,z31,z32,z33,z34,z35,z36,z37,z38,z39,y162,y163,y164,⟨(by (conv=>lhs;cbv)<;>(subst hO;rfl)),(by (conv=>lhs;cbv)<;>(subst hO;rfl))⟩,h⟩
 conv=>cbv
 refine z0e hO tiA h (by subst hO;rfl) [0,2,7,8,10,11] [3000,8000,41000,7777777] [] (fun tm m=>∃ (j165:Int) (j166:Int) (j167:Int) (j168:Int) (j169:ByteArray) (j170:ByteArray) (j171:Int) (j172:Int) (j173:ByteArray) (j174:EL) (j175:EL) (j176:Int) (j177:Int) (j178:ByteArray) (j179:EL) (j180:EL) (j181:EL) (j182:Int) (j183:Int) (j184:ByteArray) (j185:EL) (j186:EL) (j187:Int) (j188:Int) (j189:ByteArray) (j190:EL) (j191:EL) (j192:EL) (j193:Int) (j194:Int),((tm=frame 0 120 [(0,.c (.sl 1 x0 none)),(2,.p 3000 0 0),(7,.p 8000 0 0),(8,.c (.v (.string y4))),(10,.p 41000 0 0),(11,.c (.v (.int .i64 z43)))]∧m=⟨[(3000,.blk 0 [.c (.v (.int .i64 0)),.c (.v (.int .i64 0)),.c (.v (.int .i64 0)),.c (.v (.int .i64 0)),.c (.v (.int .u64 0)),.c (.v (.int .u64 0)),.c (.v (.int .u64 0)),.c (.v (.int .u64 0)),.c (.v (.int .i64 0)),.c (.v (.int .i64 0)),.c (.v (.int .i64 0)),.c (.v (.string ⟨#[]⟩)),.c (.v (.string ⟨#[]⟩)),.c (.v (.int .i64 0)),.c (.v (.int .i64 0)),.c (.v (.string ⟨#[]⟩)),.c (.sl 3 nilE none),.c (.sl 5 nilE none),.c (.v (.int .i64 0)),.c (.v (.int .i64 0)),.c (.v (.string ⟨#[]⟩)),.c (.sl 3 nilE none),.c (.sl 5 nilE none),.c (.sl 6 nilE none),.c (.v (.int .i64 0)),.c (.v (.int .i64 0)),.c (.v (.string ⟨#[]⟩)),.c (.sl 3 nilE none),.c (.sl 5 nilE none),.c (.v (.int .i64 0)),.c (.v (.int .i64 0)),.c (.v (.string ⟨#[]⟩)),.c (.sl 3 nilE none),.c (.sl 5 nilE none)]),(8000,.blk 0 [.c (.v (.int .i64 z6)),.c (.v (.int .i64 j165)),.c (.v (.int .i64 z8)),.c (.v (.int .i64 z9)),.c (.v (.int .u64 z10)),.c (.v (.int .u64 z11)),.c (.v (.int .u64 z12)),.c (.v (.int .u64 z13)),.c (.v (.int .i64 j166)),.c (.v (.int .i64 j167)),.c (.v (.int .i64 j168)),.c (.v (.string j169)),.c (.v (.string j170)),.c (.v (.int .i64 j171)),.c (.v (.int .i64 j172)),.c (.v (.string j173)),.c (.sl 3 j174 none),.c (.sl 5 j175 none),.c (.v (.int .i64 j176)),.c (.v (.int .i64 j177)),.c (.v (.string j178)),.c (.sl 3 j179 none),.c (.sl 5 j180 none),.c (.sl 6 j181 none),.c (.v (.int .i64 j182)),.c (.v (.int .i64 j183)),.c (.v (.string j184)),.c (.sl 3 j185 none),.c (.sl 5 j186 none),.c (.v (.int .i64 j187)),.c (.v (.int .i64 j188)),.c (.v (.string j189)),.c (.sl 3 j190 none),.c (.sl 5 j191 none)]),(41000,.blk 0 [.c (.sl 1 j192 none),.c (.v (.int .i64 j193)),.c (.v (.int .i64 j194))])],1⟩))∧p7_4 False fu K0 (p7_10L False fu K0 x0 y4 n1) z6 z8 z9 z10 z11 z12 z13 z43 j165 j166 j167 j168 j169 j170 j171 j172 j173 j174 j175 j176 j177 j178 j179 j180 j181 j182 j183 j184 j185 j186 j187 j188 j189 j190 j191 j192 j193 j194) (fun k8 h L hL_4=>?_) (fun k8 h L hL_4=>?_) ?_
 conv=>cbv
 refine z0d hO [.ref 3] (d_p25 fu O.len hN h) ?_
 intro e Q a b
 conv=>cbv
 refine⟨by subst a hO;rfl,?_⟩
 intro r bs d
 rw [b] at d
 clear a b h
 obtain⟨y195,y196,y197,y198,y199,y200,y201,y202,y203,y204,y205,y206,y207,y208,y209,y210,y211,y212,y213,⟨rfl,rfl⟩,h⟩:=d
 conv=>cbv
 exact hL_4 _ _ ⟨z7,y195,y196,y197,y198,y199,y200,y201,y202,y203,y204,y205,y206,y207,y208,y209,y210,z30,z31,z32,z33,z34,z35,z36,z37,z38,z39,y211,y212,y213,⟨(by (conv=>lhs;cbv)<;>(subst hO;rfl)),(by (conv=>lhs;cbv)<;>(subst hO;rfl))⟩,h⟩
 conv=>cbv
 refine z0e hO tiA h (by subst hO;rfl) [0,2,7,8,10,11] [3000,8000,41000,7777777] [] (fun tm m=>∃ (j214:Int) (j215:ByteArray) (j216:Int) (j217:Int) (j218:ByteArray) (j219:EL) (j220:EL) (j221:Int) (j222:Int) (j223:ByteArray) (j224:EL) (j225:EL) (j226:EL) (j227:Int) (j228:Int),((tm=frame 0 120 [(0,.c (.sl 1 x0 none)),(2,.p 3000 0 0),(7,.p 8000 0 0),(8,.c (.v (.string y4))),(10,.p 41000 0 0),(11,.c (.v (.int .i64 z43)))]∧m=⟨[(3000,.blk 0 [.c (.v (.int .i64 0)),.c (.v (.int .i64 0)),.c (.v (.int .i64 0)),.c (.v (.int .i64 0)),.c (.v (.int .u64 0)),.c (.v (.int .u64 0)),.c (.v (.int .u64 0)),.c (.v (.int .u64 0)),.c (.v (.int .i64 0)),.c (.v (.int .i64 0)),.c (.v (.int .i64 0)),.c (.v (.string ⟨#[]⟩)),.c (.v (.string ⟨#[]⟩)),.c (.v (.int .i64 0)),.c (.v (.int .i64 0)),.c (.v (.string ⟨#[]⟩)),.c (.sl 3 nilE none),.c (.sl 5 nilE none),.c (.v (.int .i64 0)),.c (.v (.int .i64 0)),.c (.v (.string ⟨#[]⟩)),.c (.sl 3 nilE none),.c (.sl 5 nilE none),.c (.sl 6 nilE none),.c (.v (.int .i64 0)),.c (.v (.int .i64 0)),.c (.v (.string ⟨#[]⟩)),.c (.sl 3 nilE none),.c (.sl 5 nilE none),.c (.v (.int .i64 0)),.c (.v (.int .i64 0)),.c (.v (.string ⟨#[]⟩)),.c (.sl 3 nilE none),.c (.sl 5 nilE none)]),(8000,.blk 0 [.c (.v (.int .i64 z6)),.c (.v (.int .i64 j214)),.c (.v (.int .i64 z8)),.c (.v (.int .i64 z9)),.c (.v (.int .u64 z10)),.c (.v (.int .u64 z11)),.c (.v (.int .u64 z12)),.c (.v (.int .u64 z13)),.c (.v (.int .i64 z14)),.c (.v (.int .i64 z15)),.c (.v (.int .i64 z16)),.c (.v (.string j215)),.c (.v (.string z18)),.c (.v (.int .i64 z19)),.c (.v (.int .i64 z20)),.c (.v (.string z21)),.c (.sl 3 z22 none),.c (.sl 5 z23 none),.c (.v (.int .i64 z24)),.c (.v (.int .i64 z25)),.c (.v (.string z26)),.c (.sl 3 z27 none),.c (.sl 5 z28 none),.c (.sl 6 z29 none),.c (.v (.int .i64 j216)),.c (.v (.int .i64 j217)),.c (.v (.string j218)),.c (.sl 3 j219 none),.c (.sl 5 j220 none),.c (.v (.int .i64 j221)),.c (.v (.int .i64 j222)),.c (.v (.string j223)),.c (.sl 3 j224 none),.c (.sl 5 j225 none)]),(41000,.blk 0 [.c (.sl 1 j226 none),.c (.v (.int .i64 j227)),.c (.v (.int .i64 j228))])],1⟩))∧p7_5 False fu K0 (p7_10L False fu K0 x0 y4 n1) z6 z8 z9 z10 z11 z12 z13 z14 z15 z16 z18 z19 z20 z21 z22 z23 z24 z25 z26 z27 z28 z29 z43 j214 j215 j216 j217 j218 j219 j220 j221 j222 j223 j224 j225 j226 j227 j228) (fun k9 h L hL_5=>?_) (fun k9 h L hL_5=>?_) ?_
 conv=>cbv
 refine z0d hO [.ref 3] (d_p23 fu O.len hN h) ?_
 intro e Q a b
 conv=>cbv
 refine⟨by subst a hO;rfl,?_⟩
 intro r bs d
 rw [b] at d
 clear a b h
 obtain⟨y229,y230,y231,y232,⟨rfl,rfl⟩,h⟩:=d
 conv=>cbv
 exact hL_5 _ _ ⟨y229,z17,z30,z31,z32,z33,z34,z35,z36,z37,z38,z39,y230,y231,y232,⟨(by (conv=>lhs;cbv)<;>(subst hO;rfl)),(by (conv=>lhs;cbv)<;>(subst hO;rfl))⟩,h⟩
 conv=>cbv
 refine z0e hO tiA h (by subst hO;rfl) [0,2,7,8,10,11] [3000,8000,41000,7777777] [] (fun tm m=>∃ (j233:ByteArray) (j234:Int) (j235:Int) (j236:ByteArray) (j237:EL) (j238:EL) (j239:Int) (j240:Int) (j241:ByteArray) (j242:EL) (j243:EL) (j244:EL) (j245:Int) (j246:Int),((tm=frame 0 120 [(0,.c (.sl 1 x0 none)),(2,.p 3000 0 0),(7,.p 8000 0 0),(8,.c (.v (.string y4))),(10,.p 41000 0 0),(11,.c (.v (.int .i64 z43)))]∧m=⟨[(3000,.blk 0 [.c (.v (.int .i64 0)),.c (.v (.int .i64 0)),.c (.v (.int .i64 0)),.c (.v (.int .i64 0)),.c (.v (.int .u64 0)),.c (.v (.int .u64 0)),.c (.v (.int .u64 0)),.c (.v (.int .u64 0)),.c (.v (.int .i64 0)),.c (.v (.int .i64 0)),.c (.v (.int .i64 0)),.c (.v (.string ⟨#[]⟩)),.c (.v (.string ⟨#[]⟩)),.c (.v (.int .i64 0)),.c (.v (.int .i64 0)),.c (.v (.string ⟨#[]⟩)),.c (.sl 3 nilE none),.c (.sl 5 nilE none),.c (.v (.int .i64 0)),.c (.v (.int .i64 0)),.c (.v (.string ⟨#[]⟩)),.c (.sl 3 nilE none),.c (.sl 5 nilE none),.c (.sl 6 nilE none),.c (.v (.int .i64 0)),.c (.v (.int .i64 0)),.c (.v (.string ⟨#[]⟩)),.c (.sl 3 nilE none),.c (.sl 5 nilE none),.c (.v (.int .i64 0)),.c (.v (.int .i64 0)),.c (.v (.string ⟨#[]⟩)),.c (.sl 3 nilE none),.c (.sl 5 nilE none)]),(8000,.blk 0 [.c (.v (.int .i64 z6)),.c (.v (.int .i64 z7)),.c (.v (.int .i64 z8)),.c (.v (.int .i64 z9)),.c (.v (.int .u64 z10)),.c (.v (.int .u64 z11)),.c (.v (.int .u64 z12)),.c (.v (.int .u64 z13)),.c (.v (.int .i64 z14)),.c (.v (.int .i64 z15)),.c (.v (.int .i64 z16)),.c (.v (.string j233)),.c (.v (.string z18)),.c (.v (.int .i64 z19)),.c (.v (.int .i64 z20)),.c (.v (.string z21)),.c (.sl 3 z22 none),.c (.sl 5 z23 none),.c (.v (.int .i64 z24)),.c (.v (.int .i64 z25)),.c (.v (.string z26)),.c (.sl 3 z27 none),.c (.sl 5 z28 none),.c (.sl 6 z29 none),.c (.v (.int .i64 j234)),.c (.v (.int .i64 j235)),.c (.v (.string j236)),.c (.sl 3 j237 none),.c (.sl 5 j238 none),.c (.v (.int .i64 j239)),.c (.v (.int .i64 j240)),.c (.v (.string j241)),.c (.sl 3 j242 none),.c (.sl 5 j243 none)]),(41000,.blk 0 [.c (.sl 1 j244 none),.c (.v (.int .i64 j245)),.c (.v (.int .i64 j246))])],1⟩))∧p7_6 False fu K0 (p7_10L False fu K0 x0 y4 n1) z6 z7 z8 z9 z10 z11 z12 z13 z14 z15 z16 z18 z19 z20 z21 z22 z23 z24 z25 z26 z27 z28 z29 z43 j233 j234 j235 j236 j237 j238 j239 j240 j241 j242 j243 j244 j245 j246) (fun k10 h L hL_6=>?_) (fun k10 h L hL_6=>?_) ?_
 conv=>cbv
 refine z0d hO [.ref 3] (d_p26 fu O.len hN h) ?_
 intro e Q a b
 conv=>cbv
 refine⟨by subst a hO;rfl,?_⟩
 intro r bs d
 rw [b] at d
 clear a b h
 obtain⟨y247,y248,y249,y250,y251,y252,y253,y254,⟨rfl,rfl⟩,h⟩:=d
 conv=>cbv
 exact hL_6 _ _ ⟨z17,y247,y248,y249,y250,y251,z35,z36,z37,z38,z39,y252,y253,y254,⟨(by (conv=>lhs;cbv)<;>(subst hO;rfl)),(by (conv=>lhs;cbv)<;>(subst hO;rfl))⟩,h⟩
 conv=>cbv
 refine z0e hO tiA h (by subst hO;rfl) [0,2,7,8,10,11] [3000,8000,41000,7777777] [] (fun tm m=>∃ (j255:ByteArray) (j256:Int) (j257:Int) (j258:ByteArray) (j259:EL) (j260:EL) (j261:EL) (j262:Int) (j263:Int),((tm=frame 0 120 [(0,.c (.sl 1 x0 none)),(2,.p 3000 0 0),(7,.p 8000 0 0),(8,.c (.v (.string y4))),(10,.p 41000 0 0),(11,.c (.v (.int .i64 z43)))]∧m=⟨[(3000,.blk 0 [.c (.v (.int .i64 0)),.c (.v (.int .i64 0)),.c (.v (.int .i64 0)),.c (.v (.int .i64 0)),.c (.v (.int .u64 0)),.c (.v (.int .u64 0)),.c (.v (.int .u64 0)),.c (.v (.int .u64 0)),.c (.v (.int .i64 0)),.c (.v (.int .i64 0)),.c (.v (.int .i64 0)),.c (.v (.string ⟨#[]⟩)),.c (.v (.string ⟨#[]⟩)),.c (.v (.int .i64 0)),.c (.v (.int .i64 0)),.c (.v (.string ⟨#[]⟩)),.c (.sl 3 nilE none),.c (.sl 5 nilE none),.c (.v (.int .i64 0)),.c (.v (.int .i64 0)),.c (.v (.string ⟨#[]⟩)),.c (.sl 3 nilE none),.c (.sl 5 nilE none),.c (.sl 6 nilE none),.c (.v (.int .i64 0)),.c (.v (.int .i64 0)),.c (.v (.string ⟨#[]⟩)),.c (.sl 3 nilE none),.c (.sl 5 nilE none),.c (.v (.int .i64 0)),.c (.v (.int .i64 0)),.c (.v (.string ⟨#[]⟩)),.c (.sl 3 nilE none),.c (.sl 5 nilE none)]),(8000,.blk 0 [.c (.v (.int .i64 z6)),.c (.v (.int .i64 z7)),.c (.v (.int .i64 z8)),.c (.v (.int .i64 z9)),.c (.v (.int .u64 z10)),.c (.v (.int .u64 z11)),.c (.v (.int .u64 z12)),.c (.v (.int .u64 z13)),.c (.v (.int .i64 z14)),.c (.v (.int .i64 z15)),.c (.v (.int .i64 z16)),.c (.v (.string j255)),.c (.v (.string z18)),.c (.v (.int .i64 z19)),.c (.v (.int .i64 z20)),.c (.v (.string z21)),.c (.sl 3 z22 none),.c (.sl 5 z23 none),.c (.v (.int .i64 z24)),.c (.v (.int .i64 z25)),.c (.v (.string z26)),.c (.sl 3 z27 none),.c (.sl 5 z28 none),.c (.sl 6 z29 none),.c (.v (.int .i64 z30)),.c (.v (.int .i64 z31)),.c (.v (.string z32)),.c (.sl 3 z33 none),.c (.sl 5 z34 none),.c (.v (.int .i64 j256)),.c (.v (.int .i64 j257)),.c (.v (.string j258)),.c (.sl 3 j259 none),.c (.sl 5 j260 none)]),(41000,.blk 0 [.c (.sl 1 j261 none),.c (.v (.int .i64 j262)),.c (.v (.int .i64 j263))])],1⟩))∧p7_7 False fu K0 (p7_10L False fu K0 x0 y4 n1) z6 z7 z8 z9 z10 z11 z12 z13 z14 z15 z16 z18 z19 z20 z21 z22 z23 z24 z25 z26 z27 z28 z29 z30 z31 z32 z33 z34 z43 j255 j256 j257 j258 j259 j260 j261 j262 j263) (fun k11 h L hL_7=>?_) (fun k11 h L hL_7=>?_) ?_
 conv=>cbv
 refine z0d hO [.ref 3] (d_p26 fu O.len hN h) ?_
 intro e Q a b
 conv=>cbv
 refine⟨by subst a hO;rfl,?_⟩
 intro r bs d
 rw [b] at d
 clear a b h
 obtain⟨y264,y265,y266,y267,y268,y269,y270,y271,⟨rfl,rfl⟩,h⟩:=d
 conv=>cbv
 exact hL_7 _ _ ⟨z17,y264,y265,y266,y267,y268,y269,y270,y271,⟨(by (conv=>lhs;cbv)<;>(subst hO;rfl)),(by (conv=>lhs;cbv)<;>(subst hO;rfl))⟩,h⟩
 conv=>cbv
 refine z0e hO tiA h (by subst hO;rfl) [0,2,7,8,10,11] [3000,8000,41000,7777777] [] (fun tm m=>∃ (j272:ByteArray) (j273:EL) (j274:Int) (j275:Int),((tm=frame 0 120 [(0,.c (.sl 1 x0 none)),(2,.p 3000 0 0),(7,.p 8000 0 0),(8,.c (.v (.string y4))),(10,.p 41000 0 0),(11,.c (.v (.int .i64 z43)))]∧m=⟨[(3000,.blk 0 [.c (.v (.int .i64 0)),.c (.v (.int .i64 0)),.c (.v (.int .i64 0)),.c (.v (.int .i64 0)),.c (.v (.int .u64 0)),.c (.v (.int .u64 0)),.c (.v (.int .u64 0)),.c (.v (.int .u64 0)),.c (.v (.int .i64 0)),.c (.v (.int .i64 0)),.c (.v (.int .i64 0)),.c (.v (.string ⟨#[]⟩)),.c (.v (.string ⟨#[]⟩)),.c (.v (.int .i64 0)),.c (.v (.int .i64 0)),.c (.v (.string ⟨#[]⟩)),.c (.sl 3 nilE none),.c (.sl 5 nilE none),.c (.v (.int .i64 0)),.c (.v (.int .i64 0)),.c (.v (.string ⟨#[]⟩)),.c (.sl 3 nilE none),.c (.sl 5 nilE none),.c (.sl 6 nilE none),.c (.v (.int .i64 0)),.c (.v (.int .i64 0)),.c (.v (.string ⟨#[]⟩)),.c (.sl 3 nilE none),.c (.sl 5 nilE none),.c (.v (.int .i64 0)),.c (.v (.int .i64 0)),.c (.v (.string ⟨#[]⟩)),.c (.sl 3 nilE none),.c (.sl 5 nilE none)]),(8000,.blk 0 [.c (.v (.int .i64 z6)),.c (.v (.int .i64 z7)),.c (.v (.int .i64 z8)),.c (.v (.int .i64 z9)),.c (.v (.int .u64 z10)),.c (.v (.int .u64 z11)),.c (.v (.int .u64 z12)),.c (.v (.int .u64 z13)),.c (.v (.int .i64 z14)),.c (.v (.int .i64 z15)),.c (.v (.int .i64 z16)),.c (.v (.string j272)),.c (.v (.string z18)),.c (.v (.int .i64 z19)),.c (.v (.int .i64 z20)),.c (.v (.string z21)),.c (.sl 3 z22 none),.c (.sl 5 z23 none),.c (.v (.int .i64 z24)),.c (.v (.int .i64 z25)),.c (.v (.string z26)),.c (.sl 3 z27 none),.c (.sl 5 z28 none),.c (.sl 6 z29 none),.c (.v (.int .i64 z30)),.c (.v (.int .i64 z31)),.c (.v (.string z32)),.c (.sl 3 z33 none),.c (.sl 5 z34 none),.c (.v (.int .i64 z35)),.c (.v (.int .i64 z36)),.c (.v (.string z37)),.c (.sl 3 z38 none),.c (.sl 5 z39 none)]),(41000,.blk 0 [.c (.sl 1 j273 none),.c (.v (.int .i64 j274)),.c (.v (.int .i64 j275))])],1⟩))∧p7_8 False fu K0 (p7_10L False fu K0 x0 y4 n1) z6 z7 z8 z9 z10 z11 z12 z13 z14 z15 z16 z18 z19 z20 z21 z22 z23 z24 z25 z26 z27 z28 z29 z30 z31 z32 z33 z34 z35 z36 z37 z38 z39 z43 j272 j273 j274 j275) (fun k12 h L hL_8=>?_) (fun k12 h L hL_8=>?_) ?_
 conv=>cbv
 refine z0d hO [.ref 3] (d_p27 fu O.len hN h) ?_
 intro e Q a b
 conv=>cbv
 refine⟨by subst a hO;rfl,?_⟩
 intro r bs d
 rw [b] at d
 clear a b h
 obtain⟨y276,y277,y278,y279,⟨rfl,rfl⟩,h⟩:=d
 conv=>cbv
 exact hL_8 _ _ ⟨y276,y277,y278,y279,⟨(by (conv=>lhs;cbv)<;>(subst hO;rfl)),(by (conv=>lhs;cbv)<;>(subst hO;rfl))⟩,h⟩
 conv=>cbv
 exact hL_8 _ _ ⟨z17,z40,z41,z42,⟨(by (conv=>lhs;cbv)<;>(subst hO;rfl)),(by (conv=>lhs;cbv)<;>(subst hO;rfl))⟩,h⟩
 rintro tm m ⟨j272,j273,j274,j275,hs,h⟩
 unfold p7_8 at h
 obtain⟨rfl,rfl⟩:=hs
 conv=>cbv
 exact hL_7 _ _ ⟨j272,z35,z36,z37,z38,z39,j273,j274,j275,⟨(by (conv=>lhs;cbv)<;>(subst hO;rfl)),(by (conv=>lhs;cbv)<;>(subst hO;rfl))⟩,h⟩
 rintro tm m ⟨j255,j256,j257,j258,j259,j260,j261,j262,j263,hs,h⟩
 unfold p7_7 at h
 obtain⟨rfl,rfl⟩:=hs
 conv=>cbv
 exact hL_6 _ _ ⟨j255,z30,z31,z32,z33,z34,j256,j257,j258,j259,j260,j261,j262,j263,⟨(by (conv=>lhs;cbv)<;>(subst hO;rfl)),(by (conv=>lhs;cbv)<;>(subst hO;rfl))⟩,h⟩
 rintro tm m ⟨j233,j234,j235,j236,j237,j238,j239,j240,j241,j242,j243,j244,j245,j246,hs,h⟩
 unfold p7_6 at h
 obtain⟨rfl,rfl⟩:=hs
 conv=>cbv
 exact hL_5 _ _ ⟨z7,j233,j234,j235,j236,j237,j238,j239,j240,j241,j242,j243,j244,j245,j246,⟨(by (conv=>lhs;cbv)<;>(subst hO;rfl)),(by (conv=>lhs;cbv)<;>(subst hO;rfl))⟩,h⟩
 rintro tm m ⟨j214,j215,j216,j217,j218,j219,j220,j221,j222,j223,j224,j225,j226,j227,j228,hs,h⟩
 unfold p7_5 at h
 obtain⟨rfl,rfl⟩:=hs
 conv=>cbv
 exact hL_4 _ _ ⟨j214,z14,z15,z16,j215,z18,z19,z20,z21,z22,z23,z24,z25,z26,z27,z28,z29,j216,j217,j218,j219,j220,j221,j222,j223,j224,j225,j226,j227,j228,⟨(by (conv=>lhs;cbv)<;>(subst hO;rfl)),(by (conv=>lhs;cbv)<;>(subst hO;rfl))⟩,h⟩
 rintro tm m ⟨j165,j166,j167,j168,j169,j170,j171,j172,j173,j174,j175,j176,j177,j178,j179,j180,j181,j182,j183,j184,j185,j186,j187,j188,j189,j190,j191,j192,j193,j194,hs,h⟩
 unfold p7_4 at h
 obtain⟨rfl,rfl⟩:=hs
 conv=>cbv
 exact hL_3 _ _ ⟨j165,z12,z13,j166,j167,j168,j169,j170,j171,j172,j173,j174,j175,j176,j177,j178,j179,j180,j181,j182,j183,j184,j185,j186,j187,j188,j189,j190,j191,j192,j193,j194,⟨(by (conv=>lhs;cbv)<;>(subst hO;rfl)),(by (conv=>lhs;cbv)<;>(subst hO;rfl))⟩,h⟩
 rintro tm m ⟨j128,j129,j130,j131,j132,j133,j134,j135,j136,j137,j138,j139,j140,j141,j142,j143,j144,j145,j146,j147,j148,j149,j150,j151,j152,j153,j154,j155,j156,j157,j158,j159,hs,h⟩
 unfold p7_3 at h
 obtain⟨rfl,rfl⟩:=hs
 conv=>cbv
 exact hL_2 _ _ ⟨j128,z10,z11,j129,j130,j131,j132,j133,j134,j135,j136,j137,j138,j139,j140,j141,j142,j143,j144,j145,j146,j147,j148,j149,j150,j151,j152,j153,j154,j155,j156,j157,j158,j159,⟨(by (conv=>lhs;cbv)<;>(subst hO;rfl)),(by (conv=>lhs;cbv)<;>(subst hO;rfl))⟩,h⟩
 rintro tm m ⟨j89,j90,j91,j92,j93,j94,j95,j96,j97,j98,j99,j100,j101,j102,j103,j104,j105,j106,j107,j108,j109,j110,j111,j112,j113,j114,j115,j116,j117,j118,j119,j120,j121,j122,hs,h⟩
 unfold p7_2 at h
 obtain⟨rfl,rfl⟩:=hs
 conv=>cbv
 exact hL_1 _ _ ⟨j89,z8,z9,j90,j91,j92,j93,j94,j95,j96,j97,j98,j99,j100,j101,j102,j103,j104,j105,j106,j107,j108,j109,j110,j111,j112,j113,j114,j115,j116,j117,j118,j119,j120,j121,j122,⟨(by (conv=>lhs;cbv)<;>(subst hO;rfl)),(by (conv=>lhs;cbv)<;>(subst hO;rfl))⟩,h⟩
 rintro tm m ⟨j45,j46,j47,j48,j49,j50,j51,j52,j53,j54,j55,j56,j57,j58,j59,j60,j61,j62,j63,j64,j65,j66,j67,j68,j69,j70,j71,j72,j73,j74,j75,j76,j77,j78,j79,j80,hs,h⟩
 unfold p7_1 at h
 obtain⟨rfl,rfl⟩:=hs
 conv=>cbv
 exact hLn1 n1 _ _ (Nat.lt_succ_self n1) ⟨z6,j45,j46,j47,j48,j49,j50,j51,j52,j53,j54,j55,j56,j57,j58,j59,j60,j61,j62,j63,j64,j65,j66,j67,j68,j69,j70,j71,j72,j73,j74,j75,j76,j77,j78,j79,j80,z0c .add .i64 z43 1,⟨(by (conv=>lhs;cbv)<;>(subst hO;rfl)),(by (conv=>lhs;cbv)<;>(subst hO;rfl))⟩,h⟩
 conv=>cbv
 refine br_h hO h (by subst hO;rfl) (fun k13 h=>?_) (fun k13 h=>?_)
 conv=>cbv
 refine z0o hO tiA [[3000],[]] [(0,true,false),(1,true,false),(2,true,false),(3,true,false),(4,true,false),(5,false,false),(6,true,true)] (by kernel_rfl) ?_
 conv=>cbv
 refine agr hO rfl rfl ?_
 refine z0b hO ?_
 conv=>cbv
 rw [b]
 exact⟨0,0,0,0,0,0,0,0,0,0,0,⟨#[]⟩,⟨#[]⟩,0,0,⟨#[]⟩,nilE,nilE,0,0,⟨#[]⟩,nilE,nilE,nilE,0,0,⟨#[]⟩,nilE,nilE,0,0,⟨#[]⟩,nilE,nilE,z42,_,⟨(by subst hO;rfl),(by subst hO;rfl)⟩,h⟩
 conv=>cbv
 refine z0b hO ?_
 conv=>cbv
 refine br_h hO h (by subst hO;rfl) (fun k14 h=>?_) (fun k14 h=>?_)
 conv=>cbv
 rw [b]
 exact⟨0,0,0,0,0,0,0,0,0,0,0,⟨#[]⟩,⟨#[]⟩,0,0,⟨#[]⟩,nilE,nilE,0,0,⟨#[]⟩,nilE,nilE,nilE,0,0,⟨#[]⟩,nilE,nilE,0,0,⟨#[]⟩,nilE,nilE,5,_,⟨(by subst hO;rfl),(by subst hO;rfl)⟩,h⟩
 conv=>cbv
 refine z0b hO ?_
 conv=>cbv
 rw [b]
 exact⟨z6,z7,z8,z9,z10,z11,z12,z13,z14,z15,z16,z17,z18,z19,z20,z21,z22,z23,z24,z25,z26,z27,z28,z29,z30,z31,z32,z33,z34,z35,z36,z37,z38,z39,0,_,⟨(by subst hO;rfl),(by subst hO;rfl)⟩,h⟩)
theorem d_p8 (fu:Nat){K0:Bool→Prop}(L:EL→Nat)(hN:L=List.length){x0 x1 x2:EL}(h:p8 False fu K0 x0 x1 x2):Den Try.prog G0 8 [.c (.sl 1 x0 (some x1)),.c (.sl 1 x2 none)] (fun r bs=>(∃ (y0:Bool) (o0 o1:OV),(r=.c (.v (.bool y0))∧bs=[o0,o1])∧K0 y0)):=by
 obtain⟨O,hO⟩:∃ O,O=std 0 T G0 (Den Try.prog G0):=⟨_,rfl⟩
 have hLO:L=O.len:=by rw [hN,hO];rfl
 subst hLO
 refine den_h hO tiA mixed tabOk (fn:=Try.f8) (sh:=true) (by kernel_rfl) rfl rfl rfl rfl ?_
 intro Q b
 unfold p8 at h
 conv=>cbv
 refine and_h h (fun g=>(by subst hO;exact g)) (fun h=>?_)
 refine and_h h (fun g=>(by subst hO;exact g)) (fun h=>?_)
 refine and_h h (fun g=>(by subst hO;exact g)) (fun h=>?_)
 refine z0g hO tiA [1,5,23] [] [] (fun tm m=>∃ (j1:EL) (j2:EL) (j3:Bool),((tm=frame 0 38 [(1,.c (.sl 1 x2 none)),(5,.c (.sl 1 j1 (some j2))),(23,.c (.v (.bool j3)))]∧m=⟨[],1⟩))∧p8_2 False fu K0 x2 j1 j2 j3) (fun L hL_2=>?_) ?_
 conv=>cbv
 refine tob_h hO h (by subst hO;rfl) (fun s6 h=>?_)
 conv=>cbv
 refine tob_h hO h (by subst hO;rfl) (fun s7 h=>?_)
 conv=>cbv
 refine br_h hO h (by subst hO;rfl) (fun k4 h=>?_) (fun k4 h=>?_)
 conv=>cbv
 refine br_t hO k4 ?_
 conv=>cbv
 refine br_t hO k4 ?_
 conv=>cbv
 refine br_t hO k4 ?_
 conv=>cbv
 refine br_t hO k4 ?_
 conv=>cbv
 refine br_t hO k4 ?_
 conv=>cbv
 refine br_t hO k4 ?_
 conv=>cbv
 exact hL_2 _ _ ⟨List.drop ((0:Int).toNat) (List.take ((((x0.length + x1.length:Nat):Int):Int).toNat) (x0++x1)),List.drop ((((x0.length + x1.length:Nat):Int):Int).toNat) (x0++x1),true,⟨(by (conv=>lhs;cbv)<;>(subst hO;rfl)),(by (conv=>lhs;cbv)<;>(subst hO;rfl))⟩,h⟩
 conv=>cbv
 refine br_f hO k4 ?_
 conv=>cbv
 refine br_f hO k4 ?_
 conv=>cbv
 refine br_f hO k4 ?_
 conv=>cbv
 refine br_f hO k4 ?_
 conv=>cbv
 refine br_f hO k4 ?_
 conv=>cbv
 refine br_f hO k4 ?_
 conv=>cbv
 exact hL_2 _ _ ⟨List.drop ((0:Int).toNat) (List.take ((((x0.length + x1.length:Nat):Int):Int).toNat) (x0++x1)),List.drop ((((x0.length + x1.length:Nat):Int):Int).toNat) (x0++x1),(z0a .lss (((List.drop ((0:Int).toNat) (List.take ((((x0.length + x1.length:Nat):Int):Int).toNat) (x0++x1))).length:Nat):Int) (z0c .add .i64 ((x2.length:Nat):Int) 3)),⟨(by (conv=>lhs;cbv)<;>(subst hO;rfl)),(by (conv=>lhs;cbv)<;>(subst hO;rfl))⟩,h⟩
 rintro tm m ⟨j1,j2,j3,hs,h⟩
 unfold p8_2 at h
 obtain⟨rfl,rfl⟩:=hs
 conv=>cbv
 refine br_h hO h (by subst hO;rfl) (fun k1 h=>?_) (fun k1 h=>?_)
 conv=>cbv
 rw [b]
 exact⟨false,_,_,⟨(by subst hO;rfl),(by subst hO;rfl)⟩,h⟩
 conv=>cbv
 refine z0b hO ?_
 conv=>cbv
 refine z0r hO tiA [1,5,6] [] [] (fun (n:Nat) tm m=>∃ (z4:Int),((tm=frame 0 38 [(1,.c (.sl 1 x2 none)),(5,.c (.sl 1 j1 (some j2))),(6,.c (.v (.int .i64 z4)))]∧m=⟨[],1⟩))∧p8_1L False fu K0 x2 j1 n z4) (fun n=>n) fu ⟨((x2.length:Nat):Int),⟨(by (conv=>lhs;cbv)<;>(subst hO;rfl)),(by (conv=>lhs;cbv)<;>(subst hO;rfl))⟩,h⟩ ?_
 rintro n1 tm m L ⟨z4,hs,h⟩ hLn1
 (cases n1 with
 | zero=>rw [p8_1L] at h;exact h.elim
 | succ n1 =>
 rw [p8_1L] at h
 unfold p8_1 at h
 obtain⟨rfl,rfl⟩:=hs
 conv=>cbv
 refine br_h hO h (by subst hO;rfl) (fun k2 h=>?_) (fun k2 h=>?_)
 conv=>cbv
 refine z0b hO ?_
 conv=>cbv
 refine and_h h (fun g=>(by subst hO;exact g)) (fun h=>?_)
 refine and_h h (fun g=>(by subst hO;exact g)) (fun h=>?_)
 obtain⟨c5,hr,h⟩:=z2s h
 refine z1a hO _ (by subst hO;exact hr) ?_
 clear hr
 conv=>cbv
 refine br_h hO h (by subst hO;rfl) (fun k3 h=>?_) (fun k3 h=>?_)
 conv=>cbv
 rw [b]
 exact⟨false,_,_,⟨(by subst hO;rfl),(by subst hO;rfl)⟩,h⟩
 conv=>cbv
 refine z0b hO ?_
 conv=>cbv
 exact hLn1 n1 _ _ (Nat.lt_succ_self n1) ⟨z0c .add .i64 z4 1,⟨(by (conv=>lhs;cbv)<;>(subst hO;rfl)),(by (conv=>lhs;cbv)<;>(subst hO;rfl))⟩,h⟩
 conv=>cbv
 rw [b]
 exact⟨true,_,_,⟨(by subst hO;rfl),(by subst hO;rfl)⟩,h⟩)
def D_p51 (fu:Nat):Prop:=∀ {K0:Bool→Prop} (L:EL→Nat) (_:L=List.length) {x0 x1:Int} {x2:EL} {x3 x4:Int} {x5:EL} (_:p51 False fu K0 x0 x1 x2 x3 x4 x5),Den Try.prog G0 51 [.agg [.c (.v (.int .i64 x0)),.c (.v (.int .i64 x1)),.c (.sl 3 x2 none)],.agg [.c (.v (.int .i64 x3)),.c (.v (.int .i64 x4)),.c (.sl 3 x5 none)]] (fun r bs=>(∃ (y0:Bool) (o0 o1:OV),(r=.c (.v (.bool y0))∧bs=[o0,o1])∧K0 y0))
theorem b_p51 (fu:Nat)(ih_p51:D_p51 fu){K0:Bool→Prop}(L:EL→Nat)(hN:L=List.length){x0 x1:Int}{x2:EL}{x3 x4:Int}{x5:EL}(h:p51_b False fu (p51 False fu) K0 x0 x1 x2 x3 x4 x5):Den Try.prog G0 51 [.agg [.c (.v (.int .i64 x0)),.c (.v (.int .i64 x1)),.c (.sl 3 x2 none)],.agg [.c (.v (.int .i64 x3)),.c (.v (.int .i64 x4)),.c (.sl 3 x5 none)]] (fun r bs=>(∃ (y0:Bool) (o0 o1:OV),(r=.c (.v (.bool y0))∧bs=[o0,o1])∧K0 y0)):=by
 obtain⟨O,hO⟩:∃ O,O=std 0 T G0 (Den Try.prog G0):=⟨_,rfl⟩
 have hLO:L=O.len:=by rw [hN,hO];rfl
 subst hLO
 refine den_h hO tiA mixed tabOk (fn:=Try.f51) (sh:=true) (by kernel_rfl) rfl rfl rfl rfl ?_
 intro Q b
 unfold p51_b at h
 conv=>cbv
 refine z0g hO tiA [2,3,26] [3000,4000] [] (fun tm m=>∃ (j1:Bool),((tm=frame 0 46 [(2,.p 3000 0 0),(3,.p 4000 0 0),(26,.c (.v (.bool j1)))]∧m=⟨[(3000,.blk 0 [.c (.v (.int .i64 x0)),.c (.v (.int .i64 x1)),.c (.sl 3 x2 none)]),(4000,.blk 0 [.c (.v (.int .i64 x3)),.c (.v (.int .i64 x4)),.c (.sl 3 x5 none)])],1⟩))∧p51_2 False fu (p51 False fu) K0 x2 x5 j1) (fun L hL_2=>?_) ?_
 conv=>cbv
 refine br_h hO h (by subst hO;rfl) (fun k4 h=>?_) (fun k4 h=>?_)
 conv=>cbv
 refine br_t hO k4 ?_
 conv=>cbv
 refine br_t hO k4 ?_
 conv=>cbv
 refine br_t hO k4 ?_
 conv=>cbv
 refine br_t hO k4 ?_
 conv=>cbv
 refine br_t hO k4 ?_
 conv=>cbv
 refine br_t hO rfl ?_
 conv=>cbv
 refine br_t hO rfl ?_
 conv=>cbv
 refine br_t hO rfl ?_
 conv=>cbv
 refine br_t hO rfl ?_
 conv=>cbv
 refine br_t hO rfl ?_
 conv=>cbv
 refine br_t hO rfl ?_
 conv=>cbv
 refine br_t hO rfl ?_
 conv=>cbv
 refine br_t hO rfl ?_
 conv=>cbv
 exact hL_2 _ _ ⟨true,⟨(by (conv=>lhs;cbv)<;>(subst hO;rfl)),(by (conv=>lhs;cbv)<;>(subst hO;rfl))⟩,h⟩
 conv=>cbv
 refine br_f hO k4 ?_
 conv=>cbv
 refine br_f hO k4 ?_
 conv=>cbv
 refine br_f hO k4 ?_
 conv=>cbv
 refine br_f hO k4 ?_
 conv=>cbv
 refine br_f hO k4 ?_
 conv=>cbv
 refine br_h hO h (by subst hO;rfl) (fun k5 h=>?_) (fun k5 h=>?_)
 conv=>cbv
 refine br_t hO k5 ?_
 conv=>cbv
 refine br_t hO k5 ?_
 conv=>cbv
 refine br_t hO k5 ?_
 conv=>cbv
 refine br_t hO k5 ?_
 conv=>cbv
 refine br_t hO k5 ?_
 conv=>cbv
 refine br_t hO k5 ?_
 conv=>cbv
 refine br_t hO k5 ?_
 conv=>cbv
 exact hL_2 _ _ ⟨true,⟨(by (conv=>lhs;cbv)<;>(subst hO;rfl)),(by (conv=>lhs;cbv)<;>(subst hO;rfl))⟩,h⟩
 conv=>cbv
 refine br_f hO k5 ?_
 conv=>cbv
 refine br_f hO k5 ?_
 conv=>cbv
 refine br_f hO k5 ?_
 conv=>cbv
 refine br_f hO k5 ?_
 conv=>cbv
 refine br_f hO k5 ?_
 conv=>cbv
 refine br_f hO k5 ?_
 conv=>cbv
 refine br_f hO k5 ?_
 conv=>cbv
 exact hL_2 _ _ ⟨(z0a .neq ((x2.length:Nat):Int) ((x5.length:Nat):Int)),⟨(by (conv=>lhs;cbv)<;>(subst hO;rfl)),(by (conv=>lhs;cbv)<;>(subst hO;rfl))⟩,h⟩
 rintro tm m ⟨j1,hs,h⟩
 unfold p51_2 at h
 obtain⟨rfl,rfl⟩:=hs
 conv=>cbv
 refine br_h hO h (by subst hO;rfl) (fun k1 h=>?_) (fun k1 h=>?_)
 conv=>cbv
 rw [b]
 exact⟨false,_,_,⟨(by subst hO;rfl),(by subst hO;rfl)⟩,h⟩
 conv=>cbv
 refine z0b hO ?_
 conv=>cbv
 refine z0r hO tiA [2,3,5] [3000,4000] [] (fun (n:Nat) tm m=>∃ (z2:Int),((tm=frame 0 46 [(2,.p 3000 0 0),(3,.p 4000 0 0),(5,.c (.v (.int .i64 z2)))]∧m=⟨[(3000,.blk 0 [.c (.v (.int .i64 x0)),.c (.v (.int .i64 x1)),.c (.sl 3 x2 none)]),(4000,.blk 0 [.c (.v (.int .i64 x3)),.c (.v (.int .i64 x4)),.c (.sl 3 x5 none)])],1⟩))∧p51_1L False fu (p51 False fu) K0 x2 x5 n z2) (fun n=>n) fu ⟨0,⟨(by (conv=>lhs;cbv)<;>(subst hO;rfl)),(by (conv=>lhs;cbv)<;>(subst hO;rfl))⟩,h⟩ ?_
 rintro n1 tm m L ⟨z2,hs,h⟩ hLn1
 (cases n1 with
 | zero=>rw [p51_1L] at h;exact h.elim
 | succ n1 =>
 rw [p51_1L] at h
 unfold p51_1 at h
 obtain⟨rfl,rfl⟩:=hs
 conv=>cbv
 refine br_h hO h (by subst hO;rfl) (fun k2 h=>?_) (fun k2 h=>?_)
 conv=>cbv
 refine z0b hO ?_
 conv=>cbv
 refine z0o hO tiA [[],[]] [(0,true,false),(1,true,false),(2,true,false),(3,true,false),(4,true,false),(5,true,false),(6,true,false),(7,true,false),(8,true,false),(9,true,false),(10,false,true),(11,true,true)] (by kernel_rfl) ?_
 conv=>cbv
 refine and_h h (fun g=>(by subst hO;exact g)) (fun h=>?_)
 refine and_h h (fun g=>(by subst hO;exact g)) (fun h=>?_)
 obtain⟨c3,c4,c5,hr,h⟩:=z0v h
 refine z1a hO _ (by subst hO;exact hr) ?_
 clear hr
 conv=>cbv
 refine and_h h (fun g=>(by subst hO;exact g)) (fun h=>?_)
 refine and_h h (fun g=>(by subst hO;exact g)) (fun h=>?_)
 obtain⟨c6,c7,c8,hr,h⟩:=z0v h
 refine z1a hO _ (by subst hO;exact hr) ?_
 clear hr
 conv=>cbv
 refine z0d hO [.shut,.shut] (ih_p51 O.len hN h) ?_
 intro e Q a b
 conv=>cbv
 refine⟨by subst a hO;rfl,?_⟩
 intro r bs d
 rw [b] at d
 clear a b h
 obtain⟨y9,_,_,⟨rfl,rfl⟩,h⟩:=d
 conv=>cbv
 refine z0b hO ?_
 conv=>cbv
 refine br_h hO h (by subst hO;rfl) (fun k3 h=>?_) (fun k3 h=>?_)
 conv=>cbv
 rw [b]
 exact⟨false,_,_,⟨(by subst hO;rfl),(by subst hO;rfl)⟩,h⟩
 conv=>cbv
 refine z0b hO ?_
 conv=>cbv
 exact hLn1 n1 _ _ (Nat.lt_succ_self n1) ⟨z0c .add .i64 z2 1,⟨(by (conv=>lhs;cbv)<;>(subst hO;rfl)),(by (conv=>lhs;cbv)<;>(subst hO;rfl))⟩,h⟩
 conv=>cbv
 rw [b]
 exact⟨true,_,_,⟨(by subst hO;rfl),(by subst hO;rfl)⟩,h⟩)
theorem dd_p51 (fu:Nat):D_p51 fu:=by
 induction fu with
 | zero=>unfold D_p51;intros;rename_i h;rw [p51] at h;exact h.elim
 | succ n ih =>
  exact (by unfold D_p51;intro K0 L hN x0 x1 x2 x3 x4 x5 h;exact b_p51 n ih L hN (by rw [p51] at h;exact h))
theorem d_p51 (fu:Nat):D_p51 fu:=dd_p51 fu
end Go.Proofs.Ytioiigabeoaneaa
