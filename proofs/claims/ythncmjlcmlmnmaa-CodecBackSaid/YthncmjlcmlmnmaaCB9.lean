/- A part of the proof. Conditions: none. -/
import Derived.Test.YthncmjlcmlmnmaaCB4
import Derived.Test.YthncmjlcmlmnmaaCB8
import Derived.Test.YthncmjlcmlmnmaaCB5
import Derived.Test.YthncmjlcmlmnmaaCB7
namespace Go.Proofs.Ythncmjlcmlmnmaa
open Go V
set_option maxRecDepth 100000
set_option maxHeartbeats 4000000
theorem d_p76 (fu:Nat){K0:Int→Int→Int→ByteArray→ByteArray→Int→Int→ByteArray→EL→EL→Int→Int→ByteArray→EL→EL→EL→EL→Int→Prop}(L:EL→Nat)(hN:L=List.length){x0:EL}{x1:Int}(h:p76 False fu K0 x0 x1):Den Try.prog G0 76 [.ptr [.c (.sl 1 x0 none),.c (.v (.int .i64 x1))]] (fun r bs=>(∃ (y0 y1 y2:Int) (y3 y4:ByteArray) (y5 y6:Int) (y7:ByteArray) (y8 y9:EL) (y10 y11:Int) (y12:ByteArray) (y13 y14 y15 y16:EL) (y17:Int),(r=.agg [.c (.v (.int .i64 y0)),.c (.v (.int .i64 y1)),.c (.v (.int .i64 y2)),.c (.v (.string y3)),.c (.v (.string y4)),.c (.v (.int .i64 y5)),.c (.v (.int .i64 y6)),.c (.v (.string y7)),.c (.sl 3 y8 none),.c (.sl 5 y9 none),.c (.v (.int .i64 y10)),.c (.v (.int .i64 y11)),.c (.v (.string y12)),.c (.sl 3 y13 none),.c (.sl 5 y14 none),.c (.sl 6 y15 none)]∧bs=[.ptr [.c (.sl 1 y16 none),.c (.v (.int .i64 y17))]])∧K0 y0 y1 y2 y3 y4 y5 y6 y7 y8 y9 y10 y11 y12 y13 y14 y15 y16 y17)):=by
 obtain⟨O,hO⟩:∃ O,O=std 1 T G0 (Den Try.prog G0):=⟨_,rfl⟩
 have hLO:L=O.len:=by rw [hN,hO];rfl
 subst hLO
 refine den_h hO tiA mixed tabOk (fn:=Try.f76) (sh:=true) (by kernel_rfl) rfl rfl rfl rfl ?_
 intro Q b
 unfold p76 at h
 conv=>cbv
 refine z0b hO [.ref 2,.shut,.shut] (d_p93 fu O.len hN h) ?_
 intro e Q a b
 conv=>cbv
 refine⟨by subst a hO;rfl,?_⟩
 intro r bs d
 rw [b] at d
 clear a b h
 obtain⟨y1,y2,y3,_,_,⟨rfl,rfl⟩,h⟩:=d
 conv=>cbv
 refine z0b hO [.ref 2] (d_p91 fu O.len hN h) ?_
 intro e Q a b
 conv=>cbv
 refine⟨by subst a hO;rfl,?_⟩
 intro r bs d
 rw [b] at d
 clear a b h
 obtain⟨y4,y5,y6,⟨rfl,rfl⟩,h⟩:=d
 conv=>cbv
 refine z0b hO [.ref 2] (d_p91 fu O.len hN h) ?_
 intro e Q a b
 conv=>cbv
 refine⟨by subst a hO;rfl,?_⟩
 intro r bs d
 rw [b] at d
 clear a b h
 obtain⟨y7,y8,y9,⟨rfl,rfl⟩,h⟩:=d
 conv=>cbv
 refine z0b hO [.ref 2,.shut] (d_p95 fu O.len hN h) ?_
 intro e Q a b
 conv=>cbv
 refine⟨by subst a hO;rfl,?_⟩
 intro r bs d
 rw [b] at d
 clear a b h
 obtain⟨y10,y11,y12,_,⟨rfl,rfl⟩,h⟩:=d
 conv=>cbv
 refine tob_h hO h (by subst hO;rfl) (fun s13 h=>?_)
 conv=>cbv
 refine z0b hO [.ref 2,.shut] (d_p95 fu O.len hN h) ?_
 intro e Q a b
 conv=>cbv
 refine⟨by subst a hO;rfl,?_⟩
 intro r bs d
 rw [b] at d
 clear a b h
 obtain⟨y14,y15,y16,_,⟨rfl,rfl⟩,h⟩:=d
 conv=>cbv
 refine tob_h hO h (by subst hO;rfl) (fun s17 h=>?_)
 conv=>cbv
 refine z0f hO tiA h (by subst hO;rfl) [0,2,3] [0,3000,4000] [] (fun tm m=>∃ (j18:EL) (j19:Int) (j20:Int) (j21:Int) (j22:ByteArray) (j23:EL) (j24:EL),((tm=frame 0 93 [(0,.p 0 0 0),(2,.p 3000 1 0),(3,.p 4000 1 0)]∧m=⟨[(0,.blk 0 [.c (.sl 1 j18 none),.c (.v (.int .i64 j19))]),(3000,.blk 1 [.c (.v (.int .i64 0)),.c (.v (.int .i64 0)),.c (.v (.int .i64 0)),.c (.v (.string ⟨#[]⟩)),.c (.v (.string ⟨#[]⟩)),.c (.v (.int .i64 0)),.c (.v (.int .i64 0)),.c (.v (.string ⟨#[]⟩)),.c (.sl 3 [] (some [])),.c (.sl 5 [] (some [])),.c (.v (.int .i64 0)),.c (.v (.int .i64 0)),.c (.v (.string ⟨#[]⟩)),.c (.sl 3 [] (some [])),.c (.sl 5 [] (some [])),.c (.sl 6 [] (some []))]),(4000,.blk 1 [.c (.v (.int .i64 y1)),.c (.v (.int .i64 y4)),.c (.v (.int .i64 y7)),.c (.v (.string s13)),.c (.v (.string s17)),.c (.v (.int .i64 j20)),.c (.v (.int .i64 j21)),.c (.v (.string j22)),.c (.sl 3 j23 none),.c (.sl 5 j24 none),.c (.v (.int .i64 0)),.c (.v (.int .i64 0)),.c (.v (.string ⟨#[]⟩)),.c (.sl 3 [] (some [])),.c (.sl 5 [] (some [])),.c (.sl 6 [] (some []))])],2⟩)∨(j23=[]∧j24=[]∧tm=frame 0 93 [(0,.p 0 0 0),(2,.p 3000 1 0),(3,.p 4000 1 0)]∧m=⟨[(0,.blk 0 [.c (.sl 1 j18 none),.c (.v (.int .i64 j19))]),(3000,.blk 1 [.c (.v (.int .i64 0)),.c (.v (.int .i64 0)),.c (.v (.int .i64 0)),.c (.v (.string ⟨#[]⟩)),.c (.v (.string ⟨#[]⟩)),.c (.v (.int .i64 0)),.c (.v (.int .i64 0)),.c (.v (.string ⟨#[]⟩)),.c (.sl 3 [] (some [])),.c (.sl 5 [] (some [])),.c (.v (.int .i64 0)),.c (.v (.int .i64 0)),.c (.v (.string ⟨#[]⟩)),.c (.sl 3 [] (some [])),.c (.sl 5 [] (some [])),.c (.sl 6 [] (some []))]),(4000,.blk 1 [.c (.v (.int .i64 y1)),.c (.v (.int .i64 y4)),.c (.v (.int .i64 y7)),.c (.v (.string s13)),.c (.v (.string s17)),.c (.v (.int .i64 j20)),.c (.v (.int .i64 j21)),.c (.v (.string j22)),.c (.sl 3 [] (some [])),.c (.sl 5 [] (some [])),.c (.v (.int .i64 0)),.c (.v (.int .i64 0)),.c (.v (.string ⟨#[]⟩)),.c (.sl 3 [] (some [])),.c (.sl 5 [] (some [])),.c (.sl 6 [] (some []))])],2⟩))∧p76_8 False fu K0 y1 y4 y7 s13 s17 j18 j19 j20 j21 j22 j23 j24) (fun k9 h L hL_8=>?_) (fun k9 h L hL_8=>?_) ?_
 conv=>cbv
 refine z0b hO [.ref 2] (d_p65 fu O.len hN h) ?_
 intro e Q a b
 conv=>cbv
 refine⟨by subst a hO;rfl,?_⟩
 intro r bs d
 rw [b] at d
 clear a b h
 obtain⟨y77,y78,y79,y80,y81,y82,y83,⟨rfl,rfl⟩,h⟩:=d
 conv=>cbv
 exact hL_8 _ _ ⟨y82,y83,y77,y78,y79,y80,y81,(.inl ⟨(by (conv=>lhs;cbv)<;>(subst hO;rfl)),(by (conv=>lhs;cbv)<;>(subst hO;rfl))⟩),h⟩
 conv=>cbv
 exact hL_8 _ _ ⟨y15,y16,0,0,⟨#[]⟩,nilE,nilE,(.inr ⟨rfl,rfl,(by (conv=>lhs;cbv)<;>(subst hO;rfl)),(by (conv=>lhs;cbv)<;>(subst hO;rfl))⟩),h⟩
 rintro tm m ⟨j18,j19,j20,j21,j22,j23,j24,hs,h⟩
 unfold p76_8 at h
 rcases hs with hs | hs
 obtain⟨rfl,rfl⟩:=hs
 conv=>cbv
 refine z0b hO [.ref 2] (d_p116 fu O.len hN h) ?_
 intro e Q a b
 conv=>cbv
 refine⟨by subst a hO;rfl,?_⟩
 intro r bs d
 rw [b] at d
 clear a b h
 obtain⟨y25,y26,y27,⟨rfl,rfl⟩,h⟩:=d
 conv=>cbv
 refine z0q hO tiA [0,2,3,4,43] [0,3000,4000] [] (fun tm m=>∃ (j28:Bool),((tm=frame 0 93 [(0,.p 0 0 0),(2,.p 3000 1 0),(3,.p 4000 1 0),(4,.c (.v (.int .u64 y25))),(43,.c (.v (.bool j28)))]∧m=⟨[(0,.blk 0 [.c (.sl 1 y26 none),.c (.v (.int .i64 y27))]),(3000,.blk 1 [.c (.v (.int .i64 0)),.c (.v (.int .i64 0)),.c (.v (.int .i64 0)),.c (.v (.string ⟨#[]⟩)),.c (.v (.string ⟨#[]⟩)),.c (.v (.int .i64 0)),.c (.v (.int .i64 0)),.c (.v (.string ⟨#[]⟩)),.c (.sl 3 [] (some [])),.c (.sl 5 [] (some [])),.c (.v (.int .i64 0)),.c (.v (.int .i64 0)),.c (.v (.string ⟨#[]⟩)),.c (.sl 3 [] (some [])),.c (.sl 5 [] (some [])),.c (.sl 6 [] (some []))]),(4000,.blk 1 [.c (.v (.int .i64 y1)),.c (.v (.int .i64 y4)),.c (.v (.int .i64 y7)),.c (.v (.string s13)),.c (.v (.string s17)),.c (.v (.int .i64 j20)),.c (.v (.int .i64 j21)),.c (.v (.string j22)),.c (.sl 3 j23 none),.c (.sl 5 j24 none),.c (.v (.int .i64 0)),.c (.v (.int .i64 0)),.c (.v (.string ⟨#[]⟩)),.c (.sl 3 [] (some [])),.c (.sl 5 [] (some [])),.c (.sl 6 [] (some []))])],2⟩))∧p76_7 False fu K0 y1 y4 y7 s13 s17 j20 j21 j22 j23 j24 y25 y26 y27 j28) (fun L hL_7=>?_) ?_
 conv=>cbv
 refine br_h hO h (by subst hO;rfl) (fun k8 h=>?_) (fun k8 h=>?_)
 conv=>cbv
 refine br_t hO k8 ?_
 conv=>cbv
 refine br_t hO k8 ?_
 conv=>cbv
 refine br_t hO k8 ?_
 conv=>cbv
 refine br_t hO k8 ?_
 conv=>cbv
 refine br_t hO k8 ?_
 conv=>cbv
 refine br_t hO k8 ?_
 conv=>cbv
 exact hL_7 _ _ ⟨true,⟨(by (conv=>lhs;cbv)<;>(subst hO;rfl)),(by (conv=>lhs;cbv)<;>(subst hO;rfl))⟩,h⟩
 conv=>cbv
 refine br_f hO k8 ?_
 conv=>cbv
 refine br_f hO k8 ?_
 conv=>cbv
 refine br_f hO k8 ?_
 conv=>cbv
 refine br_f hO k8 ?_
 conv=>cbv
 refine br_f hO k8 ?_
 conv=>cbv
 refine br_f hO k8 ?_
 conv=>cbv
 exact hL_7 _ _ ⟨(!((z0a .eql y25 1) == (z0a .eql y1 2))),⟨(by (conv=>lhs;cbv)<;>(subst hO;rfl)),(by (conv=>lhs;cbv)<;>(subst hO;rfl))⟩,h⟩
 rintro tm m ⟨j28,hs,h⟩
 unfold p76_7 at h
 obtain⟨rfl,rfl⟩:=hs
 conv=>cbv
 refine z0f hO tiA h (by subst hO;rfl) [0,2,3,4] [0,3000,4000] [] (fun tm m=>∃ (j29:EL) (j30:Int),((tm=frame 0 93 [(0,.p 0 0 0),(2,.p 3000 1 0),(3,.p 4000 1 0),(4,.c (.v (.int .u64 y25)))]∧m=⟨[(0,.blk 0 [.c (.sl 1 j29 none),.c (.v (.int .i64 j30))]),(3000,.blk 1 [.c (.v (.int .i64 0)),.c (.v (.int .i64 0)),.c (.v (.int .i64 0)),.c (.v (.string ⟨#[]⟩)),.c (.v (.string ⟨#[]⟩)),.c (.v (.int .i64 0)),.c (.v (.int .i64 0)),.c (.v (.string ⟨#[]⟩)),.c (.sl 3 [] (some [])),.c (.sl 5 [] (some [])),.c (.v (.int .i64 0)),.c (.v (.int .i64 0)),.c (.v (.string ⟨#[]⟩)),.c (.sl 3 [] (some [])),.c (.sl 5 [] (some [])),.c (.sl 6 [] (some []))]),(4000,.blk 1 [.c (.v (.int .i64 y1)),.c (.v (.int .i64 y4)),.c (.v (.int .i64 y7)),.c (.v (.string s13)),.c (.v (.string s17)),.c (.v (.int .i64 j20)),.c (.v (.int .i64 j21)),.c (.v (.string j22)),.c (.sl 3 j23 none),.c (.sl 5 j24 none),.c (.v (.int .i64 0)),.c (.v (.int .i64 0)),.c (.v (.string ⟨#[]⟩)),.c (.sl 3 [] (some [])),.c (.sl 5 [] (some [])),.c (.sl 6 [] (some []))])],2⟩))∧p76_6 False fu K0 y1 y4 y7 s13 s17 j20 j21 j22 j23 j24 y25 j29 j30) (fun k7 h L hL_6=>?_) (fun k7 h L hL_6=>?_) ?_
 conv=>cbv
 refine z0b hO [.ref 2,.shut] (d_p94 fu O.len hN h) ?_
 intro e Q a b
 conv=>cbv
 refine⟨by subst a hO;rfl,?_⟩
 intro r bs d
 rw [b] at d
 clear a b h
 obtain⟨y75,y76,_,⟨rfl,rfl⟩,h⟩:=d
 conv=>cbv
 exact hL_6 _ _ ⟨y75,y76,⟨(by (conv=>lhs;cbv)<;>(subst hO;rfl)),(by (conv=>lhs;cbv)<;>(subst hO;rfl))⟩,h⟩
 conv=>cbv
 exact hL_6 _ _ ⟨y26,y27,⟨(by (conv=>lhs;cbv)<;>(subst hO;rfl)),(by (conv=>lhs;cbv)<;>(subst hO;rfl))⟩,h⟩
 rintro tm m ⟨j29,j30,hs,h⟩
 unfold p76_6 at h
 obtain⟨rfl,rfl⟩:=hs
 conv=>cbv
 refine z0q hO tiA [0,2,3,54] [0,3000,4000] [] (fun tm m=>∃ (j31:Bool),((tm=frame 0 93 [(0,.p 0 0 0),(2,.p 3000 1 0),(3,.p 4000 1 0),(54,.c (.v (.bool j31)))]∧m=⟨[(0,.blk 0 [.c (.sl 1 j29 none),.c (.v (.int .i64 j30))]),(3000,.blk 1 [.c (.v (.int .i64 0)),.c (.v (.int .i64 0)),.c (.v (.int .i64 0)),.c (.v (.string ⟨#[]⟩)),.c (.v (.string ⟨#[]⟩)),.c (.v (.int .i64 0)),.c (.v (.int .i64 0)),.c (.v (.string ⟨#[]⟩)),.c (.sl 3 [] (some [])),.c (.sl 5 [] (some [])),.c (.v (.int .i64 0)),.c (.v (.int .i64 0)),.c (.v (.string ⟨#[]⟩)),.c (.sl 3 [] (some [])),.c (.sl 5 [] (some [])),.c (.sl 6 [] (some []))]),(4000,.blk 1 [.c (.v (.int .i64 y1)),.c (.v (.int .i64 y4)),.c (.v (.int .i64 y7)),.c (.v (.string s13)),.c (.v (.string s17)),.c (.v (.int .i64 j20)),.c (.v (.int .i64 j21)),.c (.v (.string j22)),.c (.sl 3 j23 none),.c (.sl 5 j24 none),.c (.v (.int .i64 0)),.c (.v (.int .i64 0)),.c (.v (.string ⟨#[]⟩)),.c (.sl 3 [] (some [])),.c (.sl 5 [] (some [])),.c (.sl 6 [] (some []))])],2⟩))∧p76_5 False fu K0 y1 y4 y7 s13 s17 j20 j21 j22 j23 j24 j29 j30 j31) (fun L hL_5=>?_) ?_
 conv=>cbv
 refine br_h hO h (by subst hO;rfl) (fun k6 h=>?_) (fun k6 h=>?_)
 conv=>cbv
 refine br_t hO k6 ?_
 conv=>cbv
 refine br_t hO k6 ?_
 conv=>cbv
 exact hL_5 _ _ ⟨(z0a .eql y25 1),⟨(by (conv=>lhs;cbv)<;>(subst hO;rfl)),(by (conv=>lhs;cbv)<;>(subst hO;rfl))⟩,h⟩
 conv=>cbv
 refine br_f hO k6 ?_
 conv=>cbv
 refine br_f hO k6 ?_
 conv=>cbv
 exact hL_5 _ _ ⟨false,⟨(by (conv=>lhs;cbv)<;>(subst hO;rfl)),(by (conv=>lhs;cbv)<;>(subst hO;rfl))⟩,h⟩
 rintro tm m ⟨j31,hs,h⟩
 unfold p76_5 at h
 obtain⟨rfl,rfl⟩:=hs
 conv=>cbv
 refine z0f hO tiA h (by subst hO;rfl) [0,2,3] [0,3000,4000] [] (fun tm m=>∃ (j32:EL) (j33:Int) (j34:Int) (j35:Int) (j36:ByteArray) (j37:EL) (j38:EL),((tm=frame 0 93 [(0,.p 0 0 0),(2,.p 3000 1 0),(3,.p 4000 1 0)]∧m=⟨[(0,.blk 0 [.c (.sl 1 j32 none),.c (.v (.int .i64 j33))]),(3000,.blk 1 [.c (.v (.int .i64 0)),.c (.v (.int .i64 0)),.c (.v (.int .i64 0)),.c (.v (.string ⟨#[]⟩)),.c (.v (.string ⟨#[]⟩)),.c (.v (.int .i64 0)),.c (.v (.int .i64 0)),.c (.v (.string ⟨#[]⟩)),.c (.sl 3 [] (some [])),.c (.sl 5 [] (some [])),.c (.v (.int .i64 0)),.c (.v (.int .i64 0)),.c (.v (.string ⟨#[]⟩)),.c (.sl 3 [] (some [])),.c (.sl 5 [] (some [])),.c (.sl 6 [] (some []))]),(4000,.blk 1 [.c (.v (.int .i64 y1)),.c (.v (.int .i64 y4)),.c (.v (.int .i64 y7)),.c (.v (.string s13)),.c (.v (.string s17)),.c (.v (.int .i64 j20)),.c (.v (.int .i64 j21)),.c (.v (.string j22)),.c (.sl 3 j23 none),.c (.sl 5 j24 none),.c (.v (.int .i64 j34)),.c (.v (.int .i64 j35)),.c (.v (.string j36)),.c (.sl 3 j37 none),.c (.sl 5 j38 none),.c (.sl 6 [] (some []))])],2⟩)∨(j37=[]∧j38=[]∧tm=frame 0 93 [(0,.p 0 0 0),(2,.p 3000 1 0),(3,.p 4000 1 0)]∧m=⟨[(0,.blk 0 [.c (.sl 1 j32 none),.c (.v (.int .i64 j33))]),(3000,.blk 1 [.c (.v (.int .i64 0)),.c (.v (.int .i64 0)),.c (.v (.int .i64 0)),.c (.v (.string ⟨#[]⟩)),.c (.v (.string ⟨#[]⟩)),.c (.v (.int .i64 0)),.c (.v (.int .i64 0)),.c (.v (.string ⟨#[]⟩)),.c (.sl 3 [] (some [])),.c (.sl 5 [] (some [])),.c (.v (.int .i64 0)),.c (.v (.int .i64 0)),.c (.v (.string ⟨#[]⟩)),.c (.sl 3 [] (some [])),.c (.sl 5 [] (some [])),.c (.sl 6 [] (some []))]),(4000,.blk 1 [.c (.v (.int .i64 y1)),.c (.v (.int .i64 y4)),.c (.v (.int .i64 y7)),.c (.v (.string s13)),.c (.v (.string s17)),.c (.v (.int .i64 j20)),.c (.v (.int .i64 j21)),.c (.v (.string j22)),.c (.sl 3 j23 none),.c (.sl 5 j24 none),.c (.v (.int .i64 j34)),.c (.v (.int .i64 j35)),.c (.v (.string j36)),.c (.sl 3 [] (some [])),.c (.sl 5 [] (some [])),.c (.sl 6 [] (some []))])],2⟩))∧p76_4 False fu K0 y1 y4 y7 s13 s17 j20 j21 j22 j23 j24 j32 j33 j34 j35 j36 j37 j38) (fun k5 h L hL_4=>?_) (fun k5 h L hL_4=>?_) ?_
 conv=>cbv
 refine z0b hO [.ref 2] (d_p65 fu O.len hN h) ?_
 intro e Q a b
 conv=>cbv
 refine⟨by subst a hO;rfl,?_⟩
 intro r bs d
 rw [b] at d
 clear a b h
 obtain⟨y68,y69,y70,y71,y72,y73,y74,⟨rfl,rfl⟩,h⟩:=d
 conv=>cbv
 exact hL_4 _ _ ⟨y73,y74,y68,y69,y70,y71,y72,(.inl ⟨(by (conv=>lhs;cbv)<;>(subst hO;rfl)),(by (conv=>lhs;cbv)<;>(subst hO;rfl))⟩),h⟩
 conv=>cbv
 exact hL_4 _ _ ⟨j29,j30,0,0,⟨#[]⟩,nilE,nilE,(.inr ⟨rfl,rfl,(by (conv=>lhs;cbv)<;>(subst hO;rfl)),(by (conv=>lhs;cbv)<;>(subst hO;rfl))⟩),h⟩
 rintro tm m ⟨j32,j33,j34,j35,j36,j37,j38,hs,h⟩
 unfold p76_4 at h
 rcases hs with hs | hs
 obtain⟨rfl,rfl⟩:=hs
 conv=>cbv
 refine z0b hO [.ref 2] (d_p91 fu O.len hN h) ?_
 intro e Q a b
 conv=>cbv
 refine⟨by subst a hO;rfl,?_⟩
 intro r bs d
 rw [b] at d
 clear a b h
 obtain⟨y39,y40,y41,⟨rfl,rfl⟩,h⟩:=d
 conv=>cbv
 refine z0f hO tiA h (by subst hO;rfl) [0,2,3,5] [0,3000,4000] [] (fun tm m=>∃ (j42:EL) (j43:Int),((tm=frame 0 93 [(0,.p 0 0 0),(2,.p 3000 1 0),(3,.p 4000 1 0),(5,.c (.v (.int .i64 y39)))]∧m=⟨[(0,.blk 0 [.c (.sl 1 j42 none),.c (.v (.int .i64 j43))]),(3000,.blk 1 [.c (.v (.int .i64 0)),.c (.v (.int .i64 0)),.c (.v (.int .i64 0)),.c (.v (.string ⟨#[]⟩)),.c (.v (.string ⟨#[]⟩)),.c (.v (.int .i64 0)),.c (.v (.int .i64 0)),.c (.v (.string ⟨#[]⟩)),.c (.sl 3 [] (some [])),.c (.sl 5 [] (some [])),.c (.v (.int .i64 0)),.c (.v (.int .i64 0)),.c (.v (.string ⟨#[]⟩)),.c (.sl 3 [] (some [])),.c (.sl 5 [] (some [])),.c (.sl 6 [] (some []))]),(4000,.blk 1 [.c (.v (.int .i64 y1)),.c (.v (.int .i64 y4)),.c (.v (.int .i64 y7)),.c (.v (.string s13)),.c (.v (.string s17)),.c (.v (.int .i64 j20)),.c (.v (.int .i64 j21)),.c (.v (.string j22)),.c (.sl 3 j23 none),.c (.sl 5 j24 none),.c (.v (.int .i64 j34)),.c (.v (.int .i64 j35)),.c (.v (.string j36)),.c (.sl 3 j37 none),.c (.sl 5 j38 none),.c (.sl 6 [] (some []))])],2⟩))∧p76_3 False fu K0 y1 y4 y7 s13 s17 j20 j21 j22 j23 j24 j34 j35 j36 j37 j38 y39 j42 j43) (fun k4 h L hL_3=>?_) (fun k4 h L hL_3=>?_) ?_
 conv=>cbv
 refine z0b hO [.ref 2,.shut] (d_p94 fu O.len hN h) ?_
 intro e Q a b
 conv=>cbv
 refine⟨by subst a hO;rfl,?_⟩
 intro r bs d
 rw [b] at d
 clear a b h
 obtain⟨y66,y67,_,⟨rfl,rfl⟩,h⟩:=d
 conv=>cbv
 exact hL_3 _ _ ⟨y66,y67,⟨(by (conv=>lhs;cbv)<;>(subst hO;rfl)),(by (conv=>lhs;cbv)<;>(subst hO;rfl))⟩,h⟩
 conv=>cbv
 exact hL_3 _ _ ⟨y40,y41,⟨(by (conv=>lhs;cbv)<;>(subst hO;rfl)),(by (conv=>lhs;cbv)<;>(subst hO;rfl))⟩,h⟩
 rintro tm m ⟨j42,j43,hs,h⟩
 unfold p76_3 at h
 obtain⟨rfl,rfl⟩:=hs
 conv=>cbv
 refine z0v hO tiA [0,2,3,64,65] [0,3000,4000,90000] [] (fun (n:Nat) tm m=>∃ (z44:EL) (z45:Int) (z46:EL) (z47:Int),((z46=[]∧tm=frame 0 93 [(0,.p 0 0 0),(2,.p 3000 1 0),(3,.p 4000 1 0),(64,.c (.v (.int .i64 y39))),(65,.c (.v (.int .i64 z47)))]∧m=⟨[(0,.blk 0 [.c (.sl 1 z44 none),.c (.v (.int .i64 z45))]),(3000,.blk 1 [.c (.v (.int .i64 0)),.c (.v (.int .i64 0)),.c (.v (.int .i64 0)),.c (.v (.string ⟨#[]⟩)),.c (.v (.string ⟨#[]⟩)),.c (.v (.int .i64 0)),.c (.v (.int .i64 0)),.c (.v (.string ⟨#[]⟩)),.c (.sl 3 [] (some [])),.c (.sl 5 [] (some [])),.c (.v (.int .i64 0)),.c (.v (.int .i64 0)),.c (.v (.string ⟨#[]⟩)),.c (.sl 3 [] (some [])),.c (.sl 5 [] (some [])),.c (.sl 6 [] (some []))]),(4000,.blk 1 [.c (.v (.int .i64 y1)),.c (.v (.int .i64 y4)),.c (.v (.int .i64 y7)),.c (.v (.string s13)),.c (.v (.string s17)),.c (.v (.int .i64 j20)),.c (.v (.int .i64 j21)),.c (.v (.string j22)),.c (.sl 3 j23 none),.c (.sl 5 j24 none),.c (.v (.int .i64 j34)),.c (.v (.int .i64 j35)),.c (.v (.string j36)),.c (.sl 3 j37 none),.c (.sl 5 j38 none),.c (.sl 6 [] (some []))])],2⟩)∨(tm=frame 0 93 [(0,.p 0 0 0),(2,.p 3000 1 0),(3,.p 4000 1 0),(64,.c (.v (.int .i64 y39))),(65,.c (.v (.int .i64 z47)))]∧m=⟨[(0,.blk 0 [.c (.sl 1 z44 none),.c (.v (.int .i64 z45))]),(3000,.blk 1 [.c (.v (.int .i64 0)),.c (.v (.int .i64 0)),.c (.v (.int .i64 0)),.c (.v (.string ⟨#[]⟩)),.c (.v (.string ⟨#[]⟩)),.c (.v (.int .i64 0)),.c (.v (.int .i64 0)),.c (.v (.string ⟨#[]⟩)),.c (.sl 3 [] (some [])),.c (.sl 5 [] (some [])),.c (.v (.int .i64 0)),.c (.v (.int .i64 0)),.c (.v (.string ⟨#[]⟩)),.c (.sl 3 [] (some [])),.c (.sl 5 [] (some [])),.c (.sl 6 [] (some []))]),(4000,.blk 1 [.c (.v (.int .i64 y1)),.c (.v (.int .i64 y4)),.c (.v (.int .i64 y7)),.c (.v (.string s13)),.c (.v (.string s17)),.c (.v (.int .i64 j20)),.c (.v (.int .i64 j21)),.c (.v (.string j22)),.c (.sl 3 j23 none),.c (.sl 5 j24 none),.c (.v (.int .i64 j34)),.c (.v (.int .i64 j35)),.c (.v (.string j36)),.c (.sl 3 j37 none),.c (.sl 5 j38 none),.t 90000 1 (O.len z46)]),(90000,.arr 1 6 z46 none false)],2⟩))∧p76_2L False fu K0 y1 y4 y7 s13 s17 j20 j21 j22 j23 j24 j34 j35 j36 j37 j38 y39 n z44 z45 z46 z47) (fun n=>n) fu ⟨j42,j43,nilE,0,(.inl ⟨rfl,(by (conv=>lhs;cbv)<;>(subst hO;rfl)),(by (conv=>lhs;cbv)<;>(subst hO;rfl))⟩),h⟩ ?_
 rintro n1 tm m L ⟨z44,z45,z46,z47,hs,h⟩ hLn1
 (cases n1 with
 | zero=>rw [p76_2L] at h;exact h.elim
 | succ n1 =>
 rw [p76_2L] at h
 unfold p76_2 at h
 rcases hs with hs | hs
 obtain⟨rfl,rfl,rfl⟩:=hs
 conv=>cbv
 refine br_h hO h (by subst hO;rfl) (fun k1 h=>?_) (fun k1 h=>?_)
 conv=>cbv
 refine z0c hO ?_
 conv=>cbv
 refine br_h hO h (by subst hO;rfl) (fun k2 h=>?_) (fun k2 h=>?_)
 conv=>cbv
 rw [b]
 exact⟨y1,y4,y7,s13,s17,j20,j21,j22,j23,j24,j34,j35,j36,j37,j38,nilE,z44,z45,⟨(by subst hO;rfl),(by subst hO;rfl)⟩,h⟩
 conv=>cbv
 refine z0c hO ?_
 conv=>cbv
 refine z0b hO [.ref 2,.shut] (d_p95 fu O.len hN h) ?_
 intro e Q a b
 conv=>cbv
 refine⟨by subst a hO;rfl,?_⟩
 intro r bs d
 rw [b] at d
 clear a b h
 obtain⟨y48,y49,y50,_,⟨rfl,rfl⟩,h⟩:=d
 conv=>cbv
 refine tob_h hO h (by subst hO;rfl) (fun s51 h=>?_)
 conv=>cbv
 refine z0f hO tiA h (by subst hO;rfl) [0,2,3,6,64,65] [0,3000,4000,7000] [] (fun tm m=>∃ (j52:EL) (j53:Int) (j54:Int) (j55:Int) (j56:ByteArray) (j57:EL) (j58:EL),((tm=frame 0 93 [(0,.p 0 0 0),(2,.p 3000 1 0),(3,.p 4000 1 0),(6,.p 7000 1 0),(64,.c (.v (.int .i64 y39))),(65,.c (.v (.int .i64 z47)))]∧m=⟨[(0,.blk 0 [.c (.sl 1 j52 none),.c (.v (.int .i64 j53))]),(3000,.blk 1 [.c (.v (.int .i64 0)),.c (.v (.int .i64 0)),.c (.v (.int .i64 0)),.c (.v (.string ⟨#[]⟩)),.c (.v (.string ⟨#[]⟩)),.c (.v (.int .i64 0)),.c (.v (.int .i64 0)),.c (.v (.string ⟨#[]⟩)),.c (.sl 3 [] (some [])),.c (.sl 5 [] (some [])),.c (.v (.int .i64 0)),.c (.v (.int .i64 0)),.c (.v (.string ⟨#[]⟩)),.c (.sl 3 [] (some [])),.c (.sl 5 [] (some [])),.c (.sl 6 [] (some []))]),(4000,.blk 1 [.c (.v (.int .i64 y1)),.c (.v (.int .i64 y4)),.c (.v (.int .i64 y7)),.c (.v (.string s13)),.c (.v (.string s17)),.c (.v (.int .i64 j20)),.c (.v (.int .i64 j21)),.c (.v (.string j22)),.c (.sl 3 j23 none),.c (.sl 5 j24 none),.c (.v (.int .i64 j34)),.c (.v (.int .i64 j35)),.c (.v (.string j36)),.c (.sl 3 j37 none),.c (.sl 5 j38 none),.c (.sl 6 [] (some []))]),(7000,.blk 1 [.c (.v (.string s51)),.c (.v (.int .i64 j54)),.c (.v (.int .i64 j55)),.c (.v (.string j56)),.c (.sl 3 j57 none),.c (.sl 5 j58 none)])],2⟩)∨(j57=[]∧j58=[]∧tm=frame 0 93 [(0,.p 0 0 0),(2,.p 3000 1 0),(3,.p 4000 1 0),(6,.p 7000 1 0),(64,.c (.v (.int .i64 y39))),(65,.c (.v (.int .i64 z47)))]∧m=⟨[(0,.blk 0 [.c (.sl 1 j52 none),.c (.v (.int .i64 j53))]),(3000,.blk 1 [.c (.v (.int .i64 0)),.c (.v (.int .i64 0)),.c (.v (.int .i64 0)),.c (.v (.string ⟨#[]⟩)),.c (.v (.string ⟨#[]⟩)),.c (.v (.int .i64 0)),.c (.v (.int .i64 0)),.c (.v (.string ⟨#[]⟩)),.c (.sl 3 [] (some [])),.c (.sl 5 [] (some [])),.c (.v (.int .i64 0)),.c (.v (.int .i64 0)),.c (.v (.string ⟨#[]⟩)),.c (.sl 3 [] (some [])),.c (.sl 5 [] (some [])),.c (.sl 6 [] (some []))]),(4000,.blk 1 [.c (.v (.int .i64 y1)),.c (.v (.int .i64 y4)),.c (.v (.int .i64 y7)),.c (.v (.string s13)),.c (.v (.string s17)),.c (.v (.int .i64 j20)),.c (.v (.int .i64 j21)),.c (.v (.string j22)),.c (.sl 3 j23 none),.c (.sl 5 j24 none),.c (.v (.int .i64 j34)),.c (.v (.int .i64 j35)),.c (.v (.string j36)),.c (.sl 3 j37 none),.c (.sl 5 j38 none),.c (.sl 6 [] (some []))]),(7000,.blk 1 [.c (.v (.string s51)),.c (.v (.int .i64 j54)),.c (.v (.int .i64 j55)),.c (.v (.string j56)),.c (.sl 3 [] (some [])),.c (.sl 5 [] (some []))])],2⟩))∧p76_1 False fu K0 (p76_2L False fu K0 y1 y4 y7 s13 s17 j20 j21 j22 j23 j24 j34 j35 j36 j37 j38 y39 n1) nilE z47 s51 j52 j53 j54 j55 j56 j57 j58) (fun k3 h L hL_1=>?_) (fun k3 h L hL_1=>?_) ?_
 conv=>cbv
 refine z0b hO [.ref 2] (d_p65 fu O.len hN h) ?_
 intro e Q a b
 conv=>cbv
 refine⟨by subst a hO;rfl,?_⟩
 intro r bs d
 rw [b] at d
 clear a b h
 obtain⟨y59,y60,y61,y62,y63,y64,y65,⟨rfl,rfl⟩,h⟩:=d
 conv=>cbv
 exact hL_1 _ _ ⟨y64,y65,y59,y60,y61,y62,y63,(.inl ⟨(by (conv=>lhs;cbv)<;>(subst hO;rfl)),(by (conv=>lhs;cbv)<;>(subst hO;rfl))⟩),h⟩
 conv=>cbv
 exact hL_1 _ _ ⟨y49,y50,0,0,⟨#[]⟩,nilE,nilE,(.inr ⟨rfl,rfl,(by (conv=>lhs;cbv)<;>(subst hO;rfl)),(by (conv=>lhs;cbv)<;>(subst hO;rfl))⟩),h⟩
 rintro tm m ⟨j52,j53,j54,j55,j56,j57,j58,hs,h⟩
 unfold p76_1 at h
 rcases hs with hs | hs
 obtain⟨rfl,rfl⟩:=hs
 conv=>cbv
 refine z0s hO h (fun g=>(by subst hO;exact g)) (fun h=>?_)
 conv=>cbv
 refine and_h h (fun g=>(by subst hO;exact g)) (fun h=>?_)
 refine z2l hO (by subst hO;exact List.cons_ne_nil _ _) ?_
 conv=>cbv
 exact hLn1 n1 _ _ (Nat.lt_succ_self n1) ⟨j52,j53,(nilE++(List.take 1 [[(CV.v (.string s51)),(CV.v (.int .i64 j54)),(CV.v (.int .i64 j55)),(CV.v (.string j56)),(CV.sl 3 j57 none),(CV.sl 5 j58 none)]])),z0d .add .i64 z47 1,(.inr ⟨(by (conv=>lhs;cbv)<;>(subst hO;rfl)),(by (conv=>lhs;cbv)<;>(subst hO;rfl))⟩),h⟩
 obtain⟨rfl,rfl,rfl,rfl⟩:=hs
 conv=>cbv
 refine z0s hO h (fun g=>(by subst hO;exact g)) (fun h=>?_)
 conv=>cbv
 refine and_h h (fun g=>(by subst hO;exact g)) (fun h=>?_)
 refine z2l hO (by subst hO;exact List.cons_ne_nil _ _) ?_
 conv=>cbv
 exact hLn1 n1 _ _ (Nat.lt_succ_self n1) ⟨j52,j53,(nilE++(List.take 1 [[(CV.v (.string s51)),(CV.v (.int .i64 j54)),(CV.v (.int .i64 j55)),(CV.v (.string j56)),(CV.sl 3 nilE none),(CV.sl 5 nilE none)]])),z0d .add .i64 z47 1,(.inr ⟨(by (conv=>lhs;cbv)<;>(subst hO;rfl)),(by (conv=>lhs;cbv)<;>(subst hO;rfl))⟩),h⟩
 conv=>cbv
 rw [b]
 exact⟨y1,y4,y7,s13,s17,j20,j21,j22,j23,j24,j34,j35,j36,j37,j38,nilE,z44,z45,⟨(by subst hO;rfl),(by subst hO;rfl)⟩,h⟩
 obtain⟨rfl,rfl⟩:=hs
 conv=>cbv
 refine br_h hO h (by subst hO;rfl) (fun k1 h=>?_) (fun k1 h=>?_)
 conv=>cbv
 refine z0c hO ?_
 conv=>cbv
 refine br_h hO h (by subst hO;rfl) (fun k2 h=>?_) (fun k2 h=>?_)
 conv=>cbv
 refine z0j hO ?_
 conv=>cbv
 rw [b]
 exact⟨y1,y4,y7,s13,s17,j20,j21,j22,j23,j24,j34,j35,j36,j37,j38,z46,z44,z45,⟨(by subst hO;rfl),(by subst hO;rfl)⟩,h⟩
 conv=>cbv
 refine z0c hO ?_
 conv=>cbv
 refine z0b hO [.ref 2,.shut] (d_p95 fu O.len hN h) ?_
 intro e Q a b
 conv=>cbv
 refine⟨by subst a hO;rfl,?_⟩
 intro r bs d
 rw [b] at d
 clear a b h
 obtain⟨y48,y49,y50,_,⟨rfl,rfl⟩,h⟩:=d
 conv=>cbv
 refine tob_h hO h (by subst hO;rfl) (fun s51 h=>?_)
 conv=>cbv
 refine z0f hO tiA h (by subst hO;rfl) [0,2,3,6,64,65] [0,3000,4000,7000,90000] [] (fun tm m=>∃ (j52:EL) (j53:Int) (j54:Int) (j55:Int) (j56:ByteArray) (j57:EL) (j58:EL),((tm=frame 0 93 [(0,.p 0 0 0),(2,.p 3000 1 0),(3,.p 4000 1 0),(6,.p 7000 1 0),(64,.c (.v (.int .i64 y39))),(65,.c (.v (.int .i64 z47)))]∧m=⟨[(0,.blk 0 [.c (.sl 1 j52 none),.c (.v (.int .i64 j53))]),(3000,.blk 1 [.c (.v (.int .i64 0)),.c (.v (.int .i64 0)),.c (.v (.int .i64 0)),.c (.v (.string ⟨#[]⟩)),.c (.v (.string ⟨#[]⟩)),.c (.v (.int .i64 0)),.c (.v (.int .i64 0)),.c (.v (.string ⟨#[]⟩)),.c (.sl 3 [] (some [])),.c (.sl 5 [] (some [])),.c (.v (.int .i64 0)),.c (.v (.int .i64 0)),.c (.v (.string ⟨#[]⟩)),.c (.sl 3 [] (some [])),.c (.sl 5 [] (some [])),.c (.sl 6 [] (some []))]),(4000,.blk 1 [.c (.v (.int .i64 y1)),.c (.v (.int .i64 y4)),.c (.v (.int .i64 y7)),.c (.v (.string s13)),.c (.v (.string s17)),.c (.v (.int .i64 j20)),.c (.v (.int .i64 j21)),.c (.v (.string j22)),.c (.sl 3 j23 none),.c (.sl 5 j24 none),.c (.v (.int .i64 j34)),.c (.v (.int .i64 j35)),.c (.v (.string j36)),.c (.sl 3 j37 none),.c (.sl 5 j38 none),.t 90000 1 (O.len z46)]),(7000,.blk 1 [.c (.v (.string s51)),.c (.v (.int .i64 j54)),.c (.v (.int .i64 j55)),.c (.v (.string j56)),.c (.sl 3 j57 none),.c (.sl 5 j58 none)]),(90000,.arr 1 6 z46 none false)],2⟩)∨(j57=[]∧j58=[]∧tm=frame 0 93 [(0,.p 0 0 0),(2,.p 3000 1 0),(3,.p 4000 1 0),(6,.p 7000 1 0),(64,.c (.v (.int .i64 y39))),(65,.c (.v (.int .i64 z47)))]∧m=⟨[(0,.blk 0 [.c (.sl 1 j52 none),.c (.v (.int .i64 j53))]),(3000,.blk 1 [.c (.v (.int .i64 0)),.c (.v (.int .i64 0)),.c (.v (.int .i64 0)),.c (.v (.string ⟨#[]⟩)),.c (.v (.string ⟨#[]⟩)),.c (.v (.int .i64 0)),.c (.v (.int .i64 0)),.c (.v (.string ⟨#[]⟩)),.c (.sl 3 [] (some [])),.c (.sl 5 [] (some [])),.c (.v (.int .i64 0)),.c (.v (.int .i64 0)),.c (.v (.string ⟨#[]⟩)),.c (.sl 3 [] (some [])),.c (.sl 5 [] (some [])),.c (.sl 6 [] (some []))]),(4000,.blk 1 [.c (.v (.int .i64 y1)),.c (.v (.int .i64 y4)),.c (.v (.int .i64 y7)),.c (.v (.string s13)),.c (.v (.string s17)),.c (.v (.int .i64 j20)),.c (.v (.int .i64 j21)),.c (.v (.string j22)),.c (.sl 3 j23 none),.c (.sl 5 j24 none),.c (.v (.int .i64 j34)),.c (.v (.int .i64 j35)),.c (.v (.string j36)),.c (.sl 3 j37 none),.c (.sl 5 j38 none),.t 90000 1 (O.len z46)]),(7000,.blk 1 [.c (.v (.string s51)),.c (.v (.int .i64 j54)),.c (.v (.int .i64 j55)),.c (.v (.string j56)),.c (.sl 3 [] (some [])),.c (.sl 5 [] (some []))]),(90000,.arr 1 6 z46 none false)],2⟩))∧p76_1 False fu K0 (p76_2L False fu K0 y1 y4 y7 s13 s17 j20 j21 j22 j23 j24 j34 j35 j36 j37 j38 y39 n1) z46 z47 s51 j52 j53 j54 j55 j56 j57 j58) (fun k3 h L hL_1=>?_) (fun k3 h L hL_1=>?_) ?_
 conv=>cbv
 refine z0b hO [.ref 2] (d_p65 fu O.len hN h) ?_
 intro e Q a b
 conv=>cbv
 refine⟨by subst a hO;rfl,?_⟩
 intro r bs d
 rw [b] at d
 clear a b h
 obtain⟨y59,y60,y61,y62,y63,y64,y65,⟨rfl,rfl⟩,h⟩:=d
 conv=>cbv
 exact hL_1 _ _ ⟨y64,y65,y59,y60,y61,y62,y63,(.inl ⟨(by (conv=>lhs;cbv)<;>(subst hO;rfl)),(by (conv=>lhs;cbv)<;>(subst hO;rfl))⟩),h⟩
 conv=>cbv
 exact hL_1 _ _ ⟨y49,y50,0,0,⟨#[]⟩,nilE,nilE,(.inr ⟨rfl,rfl,(by (conv=>lhs;cbv)<;>(subst hO;rfl)),(by (conv=>lhs;cbv)<;>(subst hO;rfl))⟩),h⟩
 rintro tm m ⟨j52,j53,j54,j55,j56,j57,j58,hs,h⟩
 unfold p76_1 at h
 rcases hs with hs | hs
 obtain⟨rfl,rfl⟩:=hs
 conv=>cbv
 refine z0s hO h (fun g=>(by subst hO;exact g)) (fun h=>?_)
 conv=>cbv
 refine⟨(by subst hO;rfl),?_⟩
 refine and_h h (fun g=>(by subst hO;exact g)) (fun h=>?_)
 exact hLn1 n1 _ _ (Nat.lt_succ_self n1) ⟨j52,j53,(z46++(List.take 1 [[(CV.v (.string s51)),(CV.v (.int .i64 j54)),(CV.v (.int .i64 j55)),(CV.v (.string j56)),(CV.sl 3 j57 none),(CV.sl 5 j58 none)]])),z0d .add .i64 z47 1,(.inr ⟨(by (conv=>lhs;cbv)<;>(subst hO;rfl)),(by (conv=>lhs;cbv)<;>(subst hO;rfl))⟩),h⟩
 obtain⟨rfl,rfl,rfl,rfl⟩:=hs
 conv=>cbv
 refine z0s hO h (fun g=>(by subst hO;exact g)) (fun h=>?_)
 conv=>cbv
 refine⟨(by subst hO;rfl),?_⟩
 refine and_h h (fun g=>(by subst hO;exact g)) (fun h=>?_)
 exact hLn1 n1 _ _ (Nat.lt_succ_self n1) ⟨j52,j53,(z46++(List.take 1 [[(CV.v (.string s51)),(CV.v (.int .i64 j54)),(CV.v (.int .i64 j55)),(CV.v (.string j56)),(CV.sl 3 nilE none),(CV.sl 5 nilE none)]])),z0d .add .i64 z47 1,(.inr ⟨(by (conv=>lhs;cbv)<;>(subst hO;rfl)),(by (conv=>lhs;cbv)<;>(subst hO;rfl))⟩),h⟩
 conv=>cbv
 refine z0j hO ?_
 conv=>cbv
 rw [b]
 exact⟨y1,y4,y7,s13,s17,j20,j21,j22,j23,j24,j34,j35,j36,j37,j38,z46,z44,z45,⟨(by subst hO;rfl),(by subst hO;rfl)⟩,h⟩)
 obtain⟨rfl,rfl,rfl,rfl⟩:=hs
 conv=>cbv
 refine z0b hO [.ref 2] (d_p91 fu O.len hN h) ?_
 intro e Q a b
 conv=>cbv
 refine⟨by subst a hO;rfl,?_⟩
 intro r bs d
 rw [b] at d
 clear a b h
 obtain⟨y39,y40,y41,⟨rfl,rfl⟩,h⟩:=d
 conv=>cbv
 refine z0f hO tiA h (by subst hO;rfl) [0,2,3,5] [0,3000,4000] [] (fun tm m=>∃ (j42:EL) (j43:Int),((tm=frame 0 93 [(0,.p 0 0 0),(2,.p 3000 1 0),(3,.p 4000 1 0),(5,.c (.v (.int .i64 y39)))]∧m=⟨[(0,.blk 0 [.c (.sl 1 j42 none),.c (.v (.int .i64 j43))]),(3000,.blk 1 [.c (.v (.int .i64 0)),.c (.v (.int .i64 0)),.c (.v (.int .i64 0)),.c (.v (.string ⟨#[]⟩)),.c (.v (.string ⟨#[]⟩)),.c (.v (.int .i64 0)),.c (.v (.int .i64 0)),.c (.v (.string ⟨#[]⟩)),.c (.sl 3 [] (some [])),.c (.sl 5 [] (some [])),.c (.v (.int .i64 0)),.c (.v (.int .i64 0)),.c (.v (.string ⟨#[]⟩)),.c (.sl 3 [] (some [])),.c (.sl 5 [] (some [])),.c (.sl 6 [] (some []))]),(4000,.blk 1 [.c (.v (.int .i64 y1)),.c (.v (.int .i64 y4)),.c (.v (.int .i64 y7)),.c (.v (.string s13)),.c (.v (.string s17)),.c (.v (.int .i64 j20)),.c (.v (.int .i64 j21)),.c (.v (.string j22)),.c (.sl 3 j23 none),.c (.sl 5 j24 none),.c (.v (.int .i64 j34)),.c (.v (.int .i64 j35)),.c (.v (.string j36)),.c (.sl 3 [] (some [])),.c (.sl 5 [] (some [])),.c (.sl 6 [] (some []))])],2⟩))∧p76_3 False fu K0 y1 y4 y7 s13 s17 j20 j21 j22 j23 j24 j34 j35 j36 nilE nilE y39 j42 j43) (fun k4 h L hL_3=>?_) (fun k4 h L hL_3=>?_) ?_
 conv=>cbv
 refine z0b hO [.ref 2,.shut] (d_p94 fu O.len hN h) ?_
 intro e Q a b
 conv=>cbv
 refine⟨by subst a hO;rfl,?_⟩
 intro r bs d
 rw [b] at d
 clear a b h
 obtain⟨y66,y67,_,⟨rfl,rfl⟩,h⟩:=d
 conv=>cbv
 exact hL_3 _ _ ⟨y66,y67,⟨(by (conv=>lhs;cbv)<;>(subst hO;rfl)),(by (conv=>lhs;cbv)<;>(subst hO;rfl))⟩,h⟩
 conv=>cbv
 exact hL_3 _ _ ⟨y40,y41,⟨(by (conv=>lhs;cbv)<;>(subst hO;rfl)),(by (conv=>lhs;cbv)<;>(subst hO;rfl))⟩,h⟩
 rintro tm m ⟨j42,j43,hs,h⟩
 unfold p76_3 at h
 obtain⟨rfl,rfl⟩:=hs
 conv=>cbv
 refine z0v hO tiA [0,2,3,64,65] [0,3000,4000,90000] [] (fun (n:Nat) tm m=>∃ (z44:EL) (z45:Int) (z46:EL) (z47:Int),((z46=[]∧tm=frame 0 93 [(0,.p 0 0 0),(2,.p 3000 1 0),(3,.p 4000 1 0),(64,.c (.v (.int .i64 y39))),(65,.c (.v (.int .i64 z47)))]∧m=⟨[(0,.blk 0 [.c (.sl 1 z44 none),.c (.v (.int .i64 z45))]),(3000,.blk 1 [.c (.v (.int .i64 0)),.c (.v (.int .i64 0)),.c (.v (.int .i64 0)),.c (.v (.string ⟨#[]⟩)),.c (.v (.string ⟨#[]⟩)),.c (.v (.int .i64 0)),.c (.v (.int .i64 0)),.c (.v (.string ⟨#[]⟩)),.c (.sl 3 [] (some [])),.c (.sl 5 [] (some [])),.c (.v (.int .i64 0)),.c (.v (.int .i64 0)),.c (.v (.string ⟨#[]⟩)),.c (.sl 3 [] (some [])),.c (.sl 5 [] (some [])),.c (.sl 6 [] (some []))]),(4000,.blk 1 [.c (.v (.int .i64 y1)),.c (.v (.int .i64 y4)),.c (.v (.int .i64 y7)),.c (.v (.string s13)),.c (.v (.string s17)),.c (.v (.int .i64 j20)),.c (.v (.int .i64 j21)),.c (.v (.string j22)),.c (.sl 3 j23 none),.c (.sl 5 j24 none),.c (.v (.int .i64 j34)),.c (.v (.int .i64 j35)),.c (.v (.string j36)),.c (.sl 3 [] (some [])),.c (.sl 5 [] (some [])),.c (.sl 6 [] (some []))])],2⟩)∨(tm=frame 0 93 [(0,.p 0 0 0),(2,.p 3000 1 0),(3,.p 4000 1 0),(64,.c (.v (.int .i64 y39))),(65,.c (.v (.int .i64 z47)))]∧m=⟨[(0,.blk 0 [.c (.sl 1 z44 none),.c (.v (.int .i64 z45))]),(3000,.blk 1 [.c (.v (.int .i64 0)),.c (.v (.int .i64 0)),.c (.v (.int .i64 0)),.c (.v (.string ⟨#[]⟩)),.c (.v (.string ⟨#[]⟩)),.c (.v (.int .i64 0)),.c (.v (.int .i64 0)),.c (.v (.string ⟨#[]⟩)),.c (.sl 3 [] (some [])),.c (.sl 5 [] (some [])),.c (.v (.int .i64 0)),.c (.v (.int .i64 0)),.c (.v (.string ⟨#[]⟩)),.c (.sl 3 [] (some [])),.c (.sl 5 [] (some [])),.c (.sl 6 [] (some []))]),(4000,.blk 1 [.c (.v (.int .i64 y1)),.c (.v (.int .i64 y4)),.c (.v (.int .i64 y7)),.c (.v (.string s13)),.c (.v (.string s17)),.c (.v (.int .i64 j20)),.c (.v (.int .i64 j21)),.c (.v (.string j22)),.c (.sl 3 j23 none),.c (.sl 5 j24 none),.c (.v (.int .i64 j34)),.c (.v (.int .i64 j35)),.c (.v (.string j36)),.c (.sl 3 [] (some [])),.c (.sl 5 [] (some [])),.t 90000 1 (O.len z46)]),(90000,.arr 1 6 z46 none false)],2⟩))∧p76_2L False fu K0 y1 y4 y7 s13 s17 j20 j21 j22 j23 j24 j34 j35 j36 nilE nilE y39 n z44 z45 z46 z47) (fun n=>n) fu ⟨j42,j43,nilE,0,(.inl ⟨rfl,(by (conv=>lhs;cbv)<;>(subst hO;rfl)),(by (conv=>lhs;cbv)<;>(subst hO;rfl))⟩),h⟩ ?_
 rintro n1 tm m L ⟨z44,z45,z46,z47,hs,h⟩ hLn1
 (cases n1 with
 | zero=>rw [p76_2L] at h;exact h.elim
 | succ n1 =>
 rw [p76_2L] at h
 unfold p76_2 at h
 rcases hs with hs | hs
 obtain⟨rfl,rfl,rfl⟩:=hs
 conv=>cbv
 refine br_h hO h (by subst hO;rfl) (fun k1 h=>?_) (fun k1 h=>?_)
 conv=>cbv
 refine z0c hO ?_
 conv=>cbv
 refine br_h hO h (by subst hO;rfl) (fun k2 h=>?_) (fun k2 h=>?_)
 conv=>cbv
 rw [b]
 exact⟨y1,y4,y7,s13,s17,j20,j21,j22,j23,j24,j34,j35,j36,nilE,nilE,nilE,z44,z45,⟨(by subst hO;rfl),(by subst hO;rfl)⟩,h⟩
 conv=>cbv
 refine z0c hO ?_
 conv=>cbv
 refine z0b hO [.ref 2,.shut] (d_p95 fu O.len hN h) ?_
 intro e Q a b
 conv=>cbv
 refine⟨by subst a hO;rfl,?_⟩
 intro r bs d
 rw [b] at d
 clear a b h
 obtain⟨y48,y49,y50,_,⟨rfl,rfl⟩,h⟩:=d
 conv=>cbv
 refine tob_h hO h (by subst hO;rfl) (fun s51 h=>?_)
 conv=>cbv
 refine z0f hO tiA h (by subst hO;rfl) [0,2,3,6,64,65] [0,3000,4000,7000] [] (fun tm m=>∃ (j52:EL) (j53:Int) (j54:Int) (j55:Int) (j56:ByteArray) (j57:EL) (j58:EL),((tm=frame 0 93 [(0,.p 0 0 0),(2,.p 3000 1 0),(3,.p 4000 1 0),(6,.p 7000 1 0),(64,.c (.v (.int .i64 y39))),(65,.c (.v (.int .i64 z47)))]∧m=⟨[(0,.blk 0 [.c (.sl 1 j52 none),.c (.v (.int .i64 j53))]),(3000,.blk 1 [.c (.v (.int .i64 0)),.c (.v (.int .i64 0)),.c (.v (.int .i64 0)),.c (.v (.string ⟨#[]⟩)),.c (.v (.string ⟨#[]⟩)),.c (.v (.int .i64 0)),.c (.v (.int .i64 0)),.c (.v (.string ⟨#[]⟩)),.c (.sl 3 [] (some [])),.c (.sl 5 [] (some [])),.c (.v (.int .i64 0)),.c (.v (.int .i64 0)),.c (.v (.string ⟨#[]⟩)),.c (.sl 3 [] (some [])),.c (.sl 5 [] (some [])),.c (.sl 6 [] (some []))]),(4000,.blk 1 [.c (.v (.int .i64 y1)),.c (.v (.int .i64 y4)),.c (.v (.int .i64 y7)),.c (.v (.string s13)),.c (.v (.string s17)),.c (.v (.int .i64 j20)),.c (.v (.int .i64 j21)),.c (.v (.string j22)),.c (.sl 3 j23 none),.c (.sl 5 j24 none),.c (.v (.int .i64 j34)),.c (.v (.int .i64 j35)),.c (.v (.string j36)),.c (.sl 3 [] (some [])),.c (.sl 5 [] (some [])),.c (.sl 6 [] (some []))]),(7000,.blk 1 [.c (.v (.string s51)),.c (.v (.int .i64 j54)),.c (.v (.int .i64 j55)),.c (.v (.string j56)),.c (.sl 3 j57 none),.c (.sl 5 j58 none)])],2⟩)∨(j57=[]∧j58=[]∧tm=frame 0 93 [(0,.p 0 0 0),(2,.p 3000 1 0),(3,.p 4000 1 0),(6,.p 7000 1 0),(64,.c (.v (.int .i64 y39))),(65,.c (.v (.int .i64 z47)))]∧m=⟨[(0,.blk 0 [.c (.sl 1 j52 none),.c (.v (.int .i64 j53))]),(3000,.blk 1 [.c (.v (.int .i64 0)),.c (.v (.int .i64 0)),.c (.v (.int .i64 0)),.c (.v (.string ⟨#[]⟩)),.c (.v (.string ⟨#[]⟩)),.c (.v (.int .i64 0)),.c (.v (.int .i64 0)),.c (.v (.string ⟨#[]⟩)),.c (.sl 3 [] (some [])),.c (.sl 5 [] (some [])),.c (.v (.int .i64 0)),.c (.v (.int .i64 0)),.c (.v (.string ⟨#[]⟩)),.c (.sl 3 [] (some [])),.c (.sl 5 [] (some [])),.c (.sl 6 [] (some []))]),(4000,.blk 1 [.c (.v (.int .i64 y1)),.c (.v (.int .i64 y4)),.c (.v (.int .i64 y7)),.c (.v (.string s13)),.c (.v (.string s17)),.c (.v (.int .i64 j20)),.c (.v (.int .i64 j21)),.c (.v (.string j22)),.c (.sl 3 j23 none),.c (.sl 5 j24 none),.c (.v (.int .i64 j34)),.c (.v (.int .i64 j35)),.c (.v (.string j36)),.c (.sl 3 [] (some [])),.c (.sl 5 [] (some [])),.c (.sl 6 [] (some []))]),(7000,.blk 1 [.c (.v (.string s51)),.c (.v (.int .i64 j54)),.c (.v (.int .i64 j55)),.c (.v (.string j56)),.c (.sl 3 [] (some [])),.c (.sl 5 [] (some []))])],2⟩))∧p76_1 False fu K0 (p76_2L False fu K0 y1 y4 y7 s13 s17 j20 j21 j22 j23 j24 j34 j35 j36 nilE nilE y39 n1) nilE z47 s51 j52 j53 j54 j55 j56 j57 j58) (fun k3 h L hL_1=>?_) (fun k3 h L hL_1=>?_) ?_
 conv=>cbv
 refine z0b hO [.ref 2] (d_p65 fu O.len hN h) ?_
 intro e Q a b
 conv=>cbv
 refine⟨by subst a hO;rfl,?_⟩
 intro r bs d
 rw [b] at d
 clear a b h
 obtain⟨y59,y60,y61,y62,y63,y64,y65,⟨rfl,rfl⟩,h⟩:=d
 conv=>cbv
 exact hL_1 _ _ ⟨y64,y65,y59,y60,y61,y62,y63,(.inl ⟨(by (conv=>lhs;cbv)<;>(subst hO;rfl)),(by (conv=>lhs;cbv)<;>(subst hO;rfl))⟩),h⟩
 conv=>cbv
 exact hL_1 _ _ ⟨y49,y50,0,0,⟨#[]⟩,nilE,nilE,(.inr ⟨rfl,rfl,(by (conv=>lhs;cbv)<;>(subst hO;rfl)),(by (conv=>lhs;cbv)<;>(subst hO;rfl))⟩),h⟩
 rintro tm m ⟨j52,j53,j54,j55,j56,j57,j58,hs,h⟩
 unfold p76_1 at h
 rcases hs with hs | hs
 obtain⟨rfl,rfl⟩:=hs
 conv=>cbv
 refine z0s hO h (fun g=>(by subst hO;exact g)) (fun h=>?_)
 conv=>cbv
 refine and_h h (fun g=>(by subst hO;exact g)) (fun h=>?_)
 refine z2l hO (by subst hO;exact List.cons_ne_nil _ _) ?_
 conv=>cbv
 exact hLn1 n1 _ _ (Nat.lt_succ_self n1) ⟨j52,j53,(nilE++(List.take 1 [[(CV.v (.string s51)),(CV.v (.int .i64 j54)),(CV.v (.int .i64 j55)),(CV.v (.string j56)),(CV.sl 3 j57 none),(CV.sl 5 j58 none)]])),z0d .add .i64 z47 1,(.inr ⟨(by (conv=>lhs;cbv)<;>(subst hO;rfl)),(by (conv=>lhs;cbv)<;>(subst hO;rfl))⟩),h⟩
 obtain⟨rfl,rfl,rfl,rfl⟩:=hs
 conv=>cbv
 refine z0s hO h (fun g=>(by subst hO;exact g)) (fun h=>?_)
 conv=>cbv
 refine and_h h (fun g=>(by subst hO;exact g)) (fun h=>?_)
 refine z2l hO (by subst hO;exact List.cons_ne_nil _ _) ?_
 conv=>cbv
 exact hLn1 n1 _ _ (Nat.lt_succ_self n1) ⟨j52,j53,(nilE++(List.take 1 [[(CV.v (.string s51)),(CV.v (.int .i64 j54)),(CV.v (.int .i64 j55)),(CV.v (.string j56)),(CV.sl 3 nilE none),(CV.sl 5 nilE none)]])),z0d .add .i64 z47 1,(.inr ⟨(by (conv=>lhs;cbv)<;>(subst hO;rfl)),(by (conv=>lhs;cbv)<;>(subst hO;rfl))⟩),h⟩
 conv=>cbv
 rw [b]
 exact⟨y1,y4,y7,s13,s17,j20,j21,j22,j23,j24,j34,j35,j36,nilE,nilE,nilE,z44,z45,⟨(by subst hO;rfl),(by subst hO;rfl)⟩,h⟩
 obtain⟨rfl,rfl⟩:=hs
 conv=>cbv
 refine br_h hO h (by subst hO;rfl) (fun k1 h=>?_) (fun k1 h=>?_)
 conv=>cbv
 refine z0c hO ?_
 conv=>cbv
 refine br_h hO h (by subst hO;rfl) (fun k2 h=>?_) (fun k2 h=>?_)
 conv=>cbv
 refine z0j hO ?_
 conv=>cbv
 rw [b]
 exact⟨y1,y4,y7,s13,s17,j20,j21,j22,j23,j24,j34,j35,j36,nilE,nilE,z46,z44,z45,⟨(by subst hO;rfl),(by subst hO;rfl)⟩,h⟩
 conv=>cbv
 refine z0c hO ?_
 conv=>cbv
 refine z0b hO [.ref 2,.shut] (d_p95 fu O.len hN h) ?_
 intro e Q a b
 conv=>cbv
 refine⟨by subst a hO;rfl,?_⟩
 intro r bs d
 rw [b] at d
 clear a b h
 obtain⟨y48,y49,y50,_,⟨rfl,rfl⟩,h⟩:=d
 conv=>cbv
 refine tob_h hO h (by subst hO;rfl) (fun s51 h=>?_)
 conv=>cbv
 refine z0f hO tiA h (by subst hO;rfl) [0,2,3,6,64,65] [0,3000,4000,7000,90000] [] (fun tm m=>∃ (j52:EL) (j53:Int) (j54:Int) (j55:Int) (j56:ByteArray) (j57:EL) (j58:EL),((tm=frame 0 93 [(0,.p 0 0 0),(2,.p 3000 1 0),(3,.p 4000 1 0),(6,.p 7000 1 0),(64,.c (.v (.int .i64 y39))),(65,.c (.v (.int .i64 z47)))]∧m=⟨[(0,.blk 0 [.c (.sl 1 j52 none),.c (.v (.int .i64 j53))]),(3000,.blk 1 [.c (.v (.int .i64 0)),.c (.v (.int .i64 0)),.c (.v (.int .i64 0)),.c (.v (.string ⟨#[]⟩)),.c (.v (.string ⟨#[]⟩)),.c (.v (.int .i64 0)),.c (.v (.int .i64 0)),.c (.v (.string ⟨#[]⟩)),.c (.sl 3 [] (some [])),.c (.sl 5 [] (some [])),.c (.v (.int .i64 0)),.c (.v (.int .i64 0)),.c (.v (.string ⟨#[]⟩)),.c (.sl 3 [] (some [])),.c (.sl 5 [] (some [])),.c (.sl 6 [] (some []))]),(4000,.blk 1 [.c (.v (.int .i64 y1)),.c (.v (.int .i64 y4)),.c (.v (.int .i64 y7)),.c (.v (.string s13)),.c (.v (.string s17)),.c (.v (.int .i64 j20)),.c (.v (.int .i64 j21)),.c (.v (.string j22)),.c (.sl 3 j23 none),.c (.sl 5 j24 none),.c (.v (.int .i64 j34)),.c (.v (.int .i64 j35)),.c (.v (.string j36)),.c (.sl 3 [] (some [])),.c (.sl 5 [] (some [])),.t 90000 1 (O.len z46)]),(7000,.blk 1 [.c (.v (.string s51)),.c (.v (.int .i64 j54)),.c (.v (.int .i64 j55)),.c (.v (.string j56)),.c (.sl 3 j57 none),.c (.sl 5 j58 none)]),(90000,.arr 1 6 z46 none false)],2⟩)∨(j57=[]∧j58=[]∧tm=frame 0 93 [(0,.p 0 0 0),(2,.p 3000 1 0),(3,.p 4000 1 0),(6,.p 7000 1 0),(64,.c (.v (.int .i64 y39))),(65,.c (.v (.int .i64 z47)))]∧m=⟨[(0,.blk 0 [.c (.sl 1 j52 none),.c (.v (.int .i64 j53))]),(3000,.blk 1 [.c (.v (.int .i64 0)),.c (.v (.int .i64 0)),.c (.v (.int .i64 0)),.c (.v (.string ⟨#[]⟩)),.c (.v (.string ⟨#[]⟩)),.c (.v (.int .i64 0)),.c (.v (.int .i64 0)),.c (.v (.string ⟨#[]⟩)),.c (.sl 3 [] (some [])),.c (.sl 5 [] (some [])),.c (.v (.int .i64 0)),.c (.v (.int .i64 0)),.c (.v (.string ⟨#[]⟩)),.c (.sl 3 [] (some [])),.c (.sl 5 [] (some [])),.c (.sl 6 [] (some []))]),(4000,.blk 1 [.c (.v (.int .i64 y1)),.c (.v (.int .i64 y4)),.c (.v (.int .i64 y7)),.c (.v (.string s13)),.c (.v (.string s17)),.c (.v (.int .i64 j20)),.c (.v (.int .i64 j21)),.c (.v (.string j22)),.c (.sl 3 j23 none),.c (.sl 5 j24 none),.c (.v (.int .i64 j34)),.c (.v (.int .i64 j35)),.c (.v (.string j36)),.c (.sl 3 [] (some [])),.c (.sl 5 [] (some [])),.t 90000 1 (O.len z46)]),(7000,.blk 1 [.c (.v (.string s51)),.c (.v (.int .i64 j54)),.c (.v (.int .i64 j55)),.c (.v (.string j56)),.c (.sl 3 [] (some [])),.c (.sl 5 [] (some []))]),(90000,.arr 1 6 z46 none false)],2⟩))∧p76_1 False fu K0 (p76_2L False fu K0 y1 y4 y7 s13 s17 j20 j21 j22 j23 j24 j34 j35 j36 nilE nilE y39 n1) z46 z47 s51 j52 j53 j54 j55 j56 j57 j58) (fun k3 h L hL_1=>?_) (fun k3 h L hL_1=>?_) ?_
 conv=>cbv
 refine z0b hO [.ref 2] (d_p65 fu O.len hN h) ?_
 intro e Q a b
 conv=>cbv
 refine⟨by subst a hO;rfl,?_⟩
 intro r bs d
 rw [b] at d
 clear a b h
 obtain⟨y59,y60,y61,y62,y63,y64,y65,⟨rfl,rfl⟩,h⟩:=d
 conv=>cbv
 exact hL_1 _ _ ⟨y64,y65,y59,y60,y61,y62,y63,(.inl ⟨(by (conv=>lhs;cbv)<;>(subst hO;rfl)),(by (conv=>lhs;cbv)<;>(subst hO;rfl))⟩),h⟩
 conv=>cbv
 exact hL_1 _ _ ⟨y49,y50,0,0,⟨#[]⟩,nilE,nilE,(.inr ⟨rfl,rfl,(by (conv=>lhs;cbv)<;>(subst hO;rfl)),(by (conv=>lhs;cbv)<;>(subst hO;rfl))⟩),h⟩
 rintro tm m ⟨j52,j53,j54,j55,j56,j57,j58,hs,h⟩
 unfold p76_1 at h
 rcases hs with hs | hs
 obtain⟨rfl,rfl⟩:=hs
 conv=>cbv
 refine z0s hO h (fun g=>(by subst hO;exact g)) (fun h=>?_)
 conv=>cbv
 refine⟨(by subst hO;rfl),?_⟩
 refine and_h h (fun g=>(by subst hO;exact g)) (fun h=>?_)
 exact hLn1 n1 _ _ (Nat.lt_succ_self n1) ⟨j52,j53,(z46++(List.take 1 [[(CV.v (.string s51)),(CV.v (.int .i64 j54)),(CV.v (.int .i64 j55)),(CV.v (.string j56)),(CV.sl 3 j57 none),(CV.sl 5 j58 none)]])),z0d .add .i64 z47 1,(.inr ⟨(by (conv=>lhs;cbv)<;>(subst hO;rfl)),(by (conv=>lhs;cbv)<;>(subst hO;rfl))⟩),h⟩
 obtain⟨rfl,rfl,rfl,rfl⟩:=hs
 conv=>cbv
 refine z0s hO h (fun g=>(by subst hO;exact g)) (fun h=>?_)
 conv=>cbv
 refine⟨(by subst hO;rfl),?_⟩
 refine and_h h (fun g=>(by subst hO;exact g)) (fun h=>?_)
 exact hLn1 n1 _ _ (Nat.lt_succ_self n1) ⟨j52,j53,(z46++(List.take 1 [[(CV.v (.string s51)),(CV.v (.int .i64 j54)),(CV.v (.int .i64 j55)),(CV.v (.string j56)),(CV.sl 3 nilE none),(CV.sl 5 nilE none)]])),z0d .add .i64 z47 1,(.inr ⟨(by (conv=>lhs;cbv)<;>(subst hO;rfl)),(by (conv=>lhs;cbv)<;>(subst hO;rfl))⟩),h⟩
 conv=>cbv
 refine z0j hO ?_
 conv=>cbv
 rw [b]
 exact⟨y1,y4,y7,s13,s17,j20,j21,j22,j23,j24,j34,j35,j36,nilE,nilE,z46,z44,z45,⟨(by subst hO;rfl),(by subst hO;rfl)⟩,h⟩)
 obtain⟨rfl,rfl,rfl,rfl⟩:=hs
 conv=>cbv
 refine z0b hO [.ref 2] (d_p116 fu O.len hN h) ?_
 intro e Q a b
 conv=>cbv
 refine⟨by subst a hO;rfl,?_⟩
 intro r bs d
 rw [b] at d
 clear a b h
 obtain⟨y25,y26,y27,⟨rfl,rfl⟩,h⟩:=d
 conv=>cbv
 refine z0q hO tiA [0,2,3,4,43] [0,3000,4000] [] (fun tm m=>∃ (j28:Bool),((tm=frame 0 93 [(0,.p 0 0 0),(2,.p 3000 1 0),(3,.p 4000 1 0),(4,.c (.v (.int .u64 y25))),(43,.c (.v (.bool j28)))]∧m=⟨[(0,.blk 0 [.c (.sl 1 y26 none),.c (.v (.int .i64 y27))]),(3000,.blk 1 [.c (.v (.int .i64 0)),.c (.v (.int .i64 0)),.c (.v (.int .i64 0)),.c (.v (.string ⟨#[]⟩)),.c (.v (.string ⟨#[]⟩)),.c (.v (.int .i64 0)),.c (.v (.int .i64 0)),.c (.v (.string ⟨#[]⟩)),.c (.sl 3 [] (some [])),.c (.sl 5 [] (some [])),.c (.v (.int .i64 0)),.c (.v (.int .i64 0)),.c (.v (.string ⟨#[]⟩)),.c (.sl 3 [] (some [])),.c (.sl 5 [] (some [])),.c (.sl 6 [] (some []))]),(4000,.blk 1 [.c (.v (.int .i64 y1)),.c (.v (.int .i64 y4)),.c (.v (.int .i64 y7)),.c (.v (.string s13)),.c (.v (.string s17)),.c (.v (.int .i64 j20)),.c (.v (.int .i64 j21)),.c (.v (.string j22)),.c (.sl 3 [] (some [])),.c (.sl 5 [] (some [])),.c (.v (.int .i64 0)),.c (.v (.int .i64 0)),.c (.v (.string ⟨#[]⟩)),.c (.sl 3 [] (some [])),.c (.sl 5 [] (some [])),.c (.sl 6 [] (some []))])],2⟩))∧p76_7 False fu K0 y1 y4 y7 s13 s17 j20 j21 j22 nilE nilE y25 y26 y27 j28) (fun L hL_7=>?_) ?_
 conv=>cbv
 refine br_h hO h (by subst hO;rfl) (fun k8 h=>?_) (fun k8 h=>?_)
 conv=>cbv
 refine br_t hO k8 ?_
 conv=>cbv
 refine br_t hO k8 ?_
 conv=>cbv
 refine br_t hO k8 ?_
 conv=>cbv
 refine br_t hO k8 ?_
 conv=>cbv
 refine br_t hO k8 ?_
 conv=>cbv
 refine br_t hO k8 ?_
 conv=>cbv
 exact hL_7 _ _ ⟨true,⟨(by (conv=>lhs;cbv)<;>(subst hO;rfl)),(by (conv=>lhs;cbv)<;>(subst hO;rfl))⟩,h⟩
 conv=>cbv
 refine br_f hO k8 ?_
 conv=>cbv
 refine br_f hO k8 ?_
 conv=>cbv
 refine br_f hO k8 ?_
 conv=>cbv
 refine br_f hO k8 ?_
 conv=>cbv
 refine br_f hO k8 ?_
 conv=>cbv
 refine br_f hO k8 ?_
 conv=>cbv
 exact hL_7 _ _ ⟨(!((z0a .eql y25 1) == (z0a .eql y1 2))),⟨(by (conv=>lhs;cbv)<;>(subst hO;rfl)),(by (conv=>lhs;cbv)<;>(subst hO;rfl))⟩,h⟩
 rintro tm m ⟨j28,hs,h⟩
 unfold p76_7 at h
 obtain⟨rfl,rfl⟩:=hs
 conv=>cbv
 refine z0f hO tiA h (by subst hO;rfl) [0,2,3,4] [0,3000,4000] [] (fun tm m=>∃ (j29:EL) (j30:Int),((tm=frame 0 93 [(0,.p 0 0 0),(2,.p 3000 1 0),(3,.p 4000 1 0),(4,.c (.v (.int .u64 y25)))]∧m=⟨[(0,.blk 0 [.c (.sl 1 j29 none),.c (.v (.int .i64 j30))]),(3000,.blk 1 [.c (.v (.int .i64 0)),.c (.v (.int .i64 0)),.c (.v (.int .i64 0)),.c (.v (.string ⟨#[]⟩)),.c (.v (.string ⟨#[]⟩)),.c (.v (.int .i64 0)),.c (.v (.int .i64 0)),.c (.v (.string ⟨#[]⟩)),.c (.sl 3 [] (some [])),.c (.sl 5 [] (some [])),.c (.v (.int .i64 0)),.c (.v (.int .i64 0)),.c (.v (.string ⟨#[]⟩)),.c (.sl 3 [] (some [])),.c (.sl 5 [] (some [])),.c (.sl 6 [] (some []))]),(4000,.blk 1 [.c (.v (.int .i64 y1)),.c (.v (.int .i64 y4)),.c (.v (.int .i64 y7)),.c (.v (.string s13)),.c (.v (.string s17)),.c (.v (.int .i64 j20)),.c (.v (.int .i64 j21)),.c (.v (.string j22)),.c (.sl 3 [] (some [])),.c (.sl 5 [] (some [])),.c (.v (.int .i64 0)),.c (.v (.int .i64 0)),.c (.v (.string ⟨#[]⟩)),.c (.sl 3 [] (some [])),.c (.sl 5 [] (some [])),.c (.sl 6 [] (some []))])],2⟩))∧p76_6 False fu K0 y1 y4 y7 s13 s17 j20 j21 j22 nilE nilE y25 j29 j30) (fun k7 h L hL_6=>?_) (fun k7 h L hL_6=>?_) ?_
 conv=>cbv
 refine z0b hO [.ref 2,.shut] (d_p94 fu O.len hN h) ?_
 intro e Q a b
 conv=>cbv
 refine⟨by subst a hO;rfl,?_⟩
 intro r bs d
 rw [b] at d
 clear a b h
 obtain⟨y75,y76,_,⟨rfl,rfl⟩,h⟩:=d
 conv=>cbv
 exact hL_6 _ _ ⟨y75,y76,⟨(by (conv=>lhs;cbv)<;>(subst hO;rfl)),(by (conv=>lhs;cbv)<;>(subst hO;rfl))⟩,h⟩
 conv=>cbv
 exact hL_6 _ _ ⟨y26,y27,⟨(by (conv=>lhs;cbv)<;>(subst hO;rfl)),(by (conv=>lhs;cbv)<;>(subst hO;rfl))⟩,h⟩
 rintro tm m ⟨j29,j30,hs,h⟩
 unfold p76_6 at h
 obtain⟨rfl,rfl⟩:=hs
 conv=>cbv
 refine z0q hO tiA [0,2,3,54] [0,3000,4000] [] (fun tm m=>∃ (j31:Bool),((tm=frame 0 93 [(0,.p 0 0 0),(2,.p 3000 1 0),(3,.p 4000 1 0),(54,.c (.v (.bool j31)))]∧m=⟨[(0,.blk 0 [.c (.sl 1 j29 none),.c (.v (.int .i64 j30))]),(3000,.blk 1 [.c (.v (.int .i64 0)),.c (.v (.int .i64 0)),.c (.v (.int .i64 0)),.c (.v (.string ⟨#[]⟩)),.c (.v (.string ⟨#[]⟩)),.c (.v (.int .i64 0)),.c (.v (.int .i64 0)),.c (.v (.string ⟨#[]⟩)),.c (.sl 3 [] (some [])),.c (.sl 5 [] (some [])),.c (.v (.int .i64 0)),.c (.v (.int .i64 0)),.c (.v (.string ⟨#[]⟩)),.c (.sl 3 [] (some [])),.c (.sl 5 [] (some [])),.c (.sl 6 [] (some []))]),(4000,.blk 1 [.c (.v (.int .i64 y1)),.c (.v (.int .i64 y4)),.c (.v (.int .i64 y7)),.c (.v (.string s13)),.c (.v (.string s17)),.c (.v (.int .i64 j20)),.c (.v (.int .i64 j21)),.c (.v (.string j22)),.c (.sl 3 [] (some [])),.c (.sl 5 [] (some [])),.c (.v (.int .i64 0)),.c (.v (.int .i64 0)),.c (.v (.string ⟨#[]⟩)),.c (.sl 3 [] (some [])),.c (.sl 5 [] (some [])),.c (.sl 6 [] (some []))])],2⟩))∧p76_5 False fu K0 y1 y4 y7 s13 s17 j20 j21 j22 nilE nilE j29 j30 j31) (fun L hL_5=>?_) ?_
 conv=>cbv
 refine br_h hO h (by subst hO;rfl) (fun k6 h=>?_) (fun k6 h=>?_)
 conv=>cbv
 refine br_t hO k6 ?_
 conv=>cbv
 refine br_t hO k6 ?_
 conv=>cbv
 exact hL_5 _ _ ⟨(z0a .eql y25 1),⟨(by (conv=>lhs;cbv)<;>(subst hO;rfl)),(by (conv=>lhs;cbv)<;>(subst hO;rfl))⟩,h⟩
 conv=>cbv
 refine br_f hO k6 ?_
 conv=>cbv
 refine br_f hO k6 ?_
 conv=>cbv
 exact hL_5 _ _ ⟨false,⟨(by (conv=>lhs;cbv)<;>(subst hO;rfl)),(by (conv=>lhs;cbv)<;>(subst hO;rfl))⟩,h⟩
 rintro tm m ⟨j31,hs,h⟩
 unfold p76_5 at h
 obtain⟨rfl,rfl⟩:=hs
 conv=>cbv
 refine z0f hO tiA h (by subst hO;rfl) [0,2,3] [0,3000,4000] [] (fun tm m=>∃ (j32:EL) (j33:Int) (j34:Int) (j35:Int) (j36:ByteArray) (j37:EL) (j38:EL),((tm=frame 0 93 [(0,.p 0 0 0),(2,.p 3000 1 0),(3,.p 4000 1 0)]∧m=⟨[(0,.blk 0 [.c (.sl 1 j32 none),.c (.v (.int .i64 j33))]),(3000,.blk 1 [.c (.v (.int .i64 0)),.c (.v (.int .i64 0)),.c (.v (.int .i64 0)),.c (.v (.string ⟨#[]⟩)),.c (.v (.string ⟨#[]⟩)),.c (.v (.int .i64 0)),.c (.v (.int .i64 0)),.c (.v (.string ⟨#[]⟩)),.c (.sl 3 [] (some [])),.c (.sl 5 [] (some [])),.c (.v (.int .i64 0)),.c (.v (.int .i64 0)),.c (.v (.string ⟨#[]⟩)),.c (.sl 3 [] (some [])),.c (.sl 5 [] (some [])),.c (.sl 6 [] (some []))]),(4000,.blk 1 [.c (.v (.int .i64 y1)),.c (.v (.int .i64 y4)),.c (.v (.int .i64 y7)),.c (.v (.string s13)),.c (.v (.string s17)),.c (.v (.int .i64 j20)),.c (.v (.int .i64 j21)),.c (.v (.string j22)),.c (.sl 3 [] (some [])),.c (.sl 5 [] (some [])),.c (.v (.int .i64 j34)),.c (.v (.int .i64 j35)),.c (.v (.string j36)),.c (.sl 3 j37 none),.c (.sl 5 j38 none),.c (.sl 6 [] (some []))])],2⟩)∨(j37=[]∧j38=[]∧tm=frame 0 93 [(0,.p 0 0 0),(2,.p 3000 1 0),(3,.p 4000 1 0)]∧m=⟨[(0,.blk 0 [.c (.sl 1 j32 none),.c (.v (.int .i64 j33))]),(3000,.blk 1 [.c (.v (.int .i64 0)),.c (.v (.int .i64 0)),.c (.v (.int .i64 0)),.c (.v (.string ⟨#[]⟩)),.c (.v (.string ⟨#[]⟩)),.c (.v (.int .i64 0)),.c (.v (.int .i64 0)),.c (.v (.string ⟨#[]⟩)),.c (.sl 3 [] (some [])),.c (.sl 5 [] (some [])),.c (.v (.int .i64 0)),.c (.v (.int .i64 0)),.c (.v (.string ⟨#[]⟩)),.c (.sl 3 [] (some [])),.c (.sl 5 [] (some [])),.c (.sl 6 [] (some []))]),(4000,.blk 1 [.c (.v (.int .i64 y1)),.c (.v (.int .i64 y4)),.c (.v (.int .i64 y7)),.c (.v (.string s13)),.c (.v (.string s17)),.c (.v (.int .i64 j20)),.c (.v (.int .i64 j21)),.c (.v (.string j22)),.c (.sl 3 [] (some [])),.c (.sl 5 [] (some [])),.c (.v (.int .i64 j34)),.c (.v (.int .i64 j35)),.c (.v (.string j36)),.c (.sl 3 [] (some [])),.c (.sl 5 [] (some [])),.c (.sl 6 [] (some []))])],2⟩))∧p76_4 False fu K0 y1 y4 y7 s13 s17 j20 j21 j22 nilE nilE j32 j33 j34 j35 j36 j37 j38) (fun k5 h L hL_4=>?_) (fun k5 h L hL_4=>?_) ?_
 conv=>cbv
 refine z0b hO [.ref 2] (d_p65 fu O.len hN h) ?_
 intro e Q a b
 conv=>cbv
 refine⟨by subst a hO;rfl,?_⟩
 intro r bs d
 rw [b] at d
 clear a b h
 obtain⟨y68,y69,y70,y71,y72,y73,y74,⟨rfl,rfl⟩,h⟩:=d
 conv=>cbv
 exact hL_4 _ _ ⟨y73,y74,y68,y69,y70,y71,y72,(.inl ⟨(by (conv=>lhs;cbv)<;>(subst hO;rfl)),(by (conv=>lhs;cbv)<;>(subst hO;rfl))⟩),h⟩
 conv=>cbv
 exact hL_4 _ _ ⟨j29,j30,0,0,⟨#[]⟩,nilE,nilE,(.inr ⟨rfl,rfl,(by (conv=>lhs;cbv)<;>(subst hO;rfl)),(by (conv=>lhs;cbv)<;>(subst hO;rfl))⟩),h⟩
 rintro tm m ⟨j32,j33,j34,j35,j36,j37,j38,hs,h⟩
 unfold p76_4 at h
 rcases hs with hs | hs
 obtain⟨rfl,rfl⟩:=hs
 conv=>cbv
 refine z0b hO [.ref 2] (d_p91 fu O.len hN h) ?_
 intro e Q a b
 conv=>cbv
 refine⟨by subst a hO;rfl,?_⟩
 intro r bs d
 rw [b] at d
 clear a b h
 obtain⟨y39,y40,y41,⟨rfl,rfl⟩,h⟩:=d
 conv=>cbv
 refine z0f hO tiA h (by subst hO;rfl) [0,2,3,5] [0,3000,4000] [] (fun tm m=>∃ (j42:EL) (j43:Int),((tm=frame 0 93 [(0,.p 0 0 0),(2,.p 3000 1 0),(3,.p 4000 1 0),(5,.c (.v (.int .i64 y39)))]∧m=⟨[(0,.blk 0 [.c (.sl 1 j42 none),.c (.v (.int .i64 j43))]),(3000,.blk 1 [.c (.v (.int .i64 0)),.c (.v (.int .i64 0)),.c (.v (.int .i64 0)),.c (.v (.string ⟨#[]⟩)),.c (.v (.string ⟨#[]⟩)),.c (.v (.int .i64 0)),.c (.v (.int .i64 0)),.c (.v (.string ⟨#[]⟩)),.c (.sl 3 [] (some [])),.c (.sl 5 [] (some [])),.c (.v (.int .i64 0)),.c (.v (.int .i64 0)),.c (.v (.string ⟨#[]⟩)),.c (.sl 3 [] (some [])),.c (.sl 5 [] (some [])),.c (.sl 6 [] (some []))]),(4000,.blk 1 [.c (.v (.int .i64 y1)),.c (.v (.int .i64 y4)),.c (.v (.int .i64 y7)),.c (.v (.string s13)),.c (.v (.string s17)),.c (.v (.int .i64 j20)),.c (.v (.int .i64 j21)),.c (.v (.string j22)),.c (.sl 3 [] (some [])),.c (.sl 5 [] (some [])),.c (.v (.int .i64 j34)),.c (.v (.int .i64 j35)),.c (.v (.string j36)),.c (.sl 3 j37 none),.c (.sl 5 j38 none),.c (.sl 6 [] (some []))])],2⟩))∧p76_3 False fu K0 y1 y4 y7 s13 s17 j20 j21 j22 nilE nilE j34 j35 j36 j37 j38 y39 j42 j43) (fun k4 h L hL_3=>?_) (fun k4 h L hL_3=>?_) ?_
 conv=>cbv
 refine z0b hO [.ref 2,.shut] (d_p94 fu O.len hN h) ?_
 intro e Q a b
 conv=>cbv
 refine⟨by subst a hO;rfl,?_⟩
 intro r bs d
 rw [b] at d
 clear a b h
 obtain⟨y66,y67,_,⟨rfl,rfl⟩,h⟩:=d
 conv=>cbv
 exact hL_3 _ _ ⟨y66,y67,⟨(by (conv=>lhs;cbv)<;>(subst hO;rfl)),(by (conv=>lhs;cbv)<;>(subst hO;rfl))⟩,h⟩
 conv=>cbv
 exact hL_3 _ _ ⟨y40,y41,⟨(by (conv=>lhs;cbv)<;>(subst hO;rfl)),(by (conv=>lhs;cbv)<;>(subst hO;rfl))⟩,h⟩
 rintro tm m ⟨j42,j43,hs,h⟩
 unfold p76_3 at h
 obtain⟨rfl,rfl⟩:=hs
 conv=>cbv
 refine z0v hO tiA [0,2,3,64,65] [0,3000,4000,90000] [] (fun (n:Nat) tm m=>∃ (z44:EL) (z45:Int) (z46:EL) (z47:Int),((z46=[]∧tm=frame 0 93 [(0,.p 0 0 0),(2,.p 3000 1 0),(3,.p 4000 1 0),(64,.c (.v (.int .i64 y39))),(65,.c (.v (.int .i64 z47)))]∧m=⟨[(0,.blk 0 [.c (.sl 1 z44 none),.c (.v (.int .i64 z45))]),(3000,.blk 1 [.c (.v (.int .i64 0)),.c (.v (.int .i64 0)),.c (.v (.int .i64 0)),.c (.v (.string ⟨#[]⟩)),.c (.v (.string ⟨#[]⟩)),.c (.v (.int .i64 0)),.c (.v (.int .i64 0)),.c (.v (.string ⟨#[]⟩)),.c (.sl 3 [] (some [])),.c (.sl 5 [] (some [])),.c (.v (.int .i64 0)),.c (.v (.int .i64 0)),.c (.v (.string ⟨#[]⟩)),.c (.sl 3 [] (some [])),.c (.sl 5 [] (some [])),.c (.sl 6 [] (some []))]),(4000,.blk 1 [.c (.v (.int .i64 y1)),.c (.v (.int .i64 y4)),.c (.v (.int .i64 y7)),.c (.v (.string s13)),.c (.v (.string s17)),.c (.v (.int .i64 j20)),.c (.v (.int .i64 j21)),.c (.v (.string j22)),.c (.sl 3 [] (some [])),.c (.sl 5 [] (some [])),.c (.v (.int .i64 j34)),.c (.v (.int .i64 j35)),.c (.v (.string j36)),.c (.sl 3 j37 none),.c (.sl 5 j38 none),.c (.sl 6 [] (some []))])],2⟩)∨(tm=frame 0 93 [(0,.p 0 0 0),(2,.p 3000 1 0),(3,.p 4000 1 0),(64,.c (.v (.int .i64 y39))),(65,.c (.v (.int .i64 z47)))]∧m=⟨[(0,.blk 0 [.c (.sl 1 z44 none),.c (.v (.int .i64 z45))]),(3000,.blk 1 [.c (.v (.int .i64 0)),.c (.v (.int .i64 0)),.c (.v (.int .i64 0)),.c (.v (.string ⟨#[]⟩)),.c (.v (.string ⟨#[]⟩)),.c (.v (.int .i64 0)),.c (.v (.int .i64 0)),.c (.v (.string ⟨#[]⟩)),.c (.sl 3 [] (some [])),.c (.sl 5 [] (some [])),.c (.v (.int .i64 0)),.c (.v (.int .i64 0)),.c (.v (.string ⟨#[]⟩)),.c (.sl 3 [] (some [])),.c (.sl 5 [] (some [])),.c (.sl 6 [] (some []))]),(4000,.blk 1 [.c (.v (.int .i64 y1)),.c (.v (.int .i64 y4)),.c (.v (.int .i64 y7)),.c (.v (.string s13)),.c (.v (.string s17)),.c (.v (.int .i64 j20)),.c (.v (.int .i64 j21)),.c (.v (.string j22)),.c (.sl 3 [] (some [])),.c (.sl 5 [] (some [])),.c (.v (.int .i64 j34)),.c (.v (.int .i64 j35)),.c (.v (.string j36)),.c (.sl 3 j37 none),.c (.sl 5 j38 none),.t 90000 1 (O.len z46)]),(90000,.arr 1 6 z46 none false)],2⟩))∧p76_2L False fu K0 y1 y4 y7 s13 s17 j20 j21 j22 nilE nilE j34 j35 j36 j37 j38 y39 n z44 z45 z46 z47) (fun n=>n) fu ⟨j42,j43,nilE,0,(.inl ⟨rfl,(by (conv=>lhs;cbv)<;>(subst hO;rfl)),(by (conv=>lhs;cbv)<;>(subst hO;rfl))⟩),h⟩ ?_
 rintro n1 tm m L ⟨z44,z45,z46,z47,hs,h⟩ hLn1
 (cases n1 with
 | zero=>rw [p76_2L] at h;exact h.elim
 | succ n1 =>
 rw [p76_2L] at h
 unfold p76_2 at h
 rcases hs with hs | hs
 obtain⟨rfl,rfl,rfl⟩:=hs
 conv=>cbv
 refine br_h hO h (by subst hO;rfl) (fun k1 h=>?_) (fun k1 h=>?_)
 conv=>cbv
 refine z0c hO ?_
 conv=>cbv
 refine br_h hO h (by subst hO;rfl) (fun k2 h=>?_) (fun k2 h=>?_)
 conv=>cbv
 rw [b]
 exact⟨y1,y4,y7,s13,s17,j20,j21,j22,nilE,nilE,j34,j35,j36,j37,j38,nilE,z44,z45,⟨(by subst hO;rfl),(by subst hO;rfl)⟩,h⟩
 conv=>cbv
 refine z0c hO ?_
 conv=>cbv
 refine z0b hO [.ref 2,.shut] (d_p95 fu O.len hN h) ?_
 intro e Q a b
 conv=>cbv
 refine⟨by subst a hO;rfl,?_⟩
 intro r bs d
 rw [b] at d
 clear a b h
 obtain⟨y48,y49,y50,_,⟨rfl,rfl⟩,h⟩:=d
 conv=>cbv
 refine tob_h hO h (by subst hO;rfl) (fun s51 h=>?_)
 conv=>cbv
 refine z0f hO tiA h (by subst hO;rfl) [0,2,3,6,64,65] [0,3000,4000,7000] [] (fun tm m=>∃ (j52:EL) (j53:Int) (j54:Int) (j55:Int) (j56:ByteArray) (j57:EL) (j58:EL),((tm=frame 0 93 [(0,.p 0 0 0),(2,.p 3000 1 0),(3,.p 4000 1 0),(6,.p 7000 1 0),(64,.c (.v (.int .i64 y39))),(65,.c (.v (.int .i64 z47)))]∧m=⟨[(0,.blk 0 [.c (.sl 1 j52 none),.c (.v (.int .i64 j53))]),(3000,.blk 1 [.c (.v (.int .i64 0)),.c (.v (.int .i64 0)),.c (.v (.int .i64 0)),.c (.v (.string ⟨#[]⟩)),.c (.v (.string ⟨#[]⟩)),.c (.v (.int .i64 0)),.c (.v (.int .i64 0)),.c (.v (.string ⟨#[]⟩)),.c (.sl 3 [] (some [])),.c (.sl 5 [] (some [])),.c (.v (.int .i64 0)),.c (.v (.int .i64 0)),.c (.v (.string ⟨#[]⟩)),.c (.sl 3 [] (some [])),.c (.sl 5 [] (some [])),.c (.sl 6 [] (some []))]),(4000,.blk 1 [.c (.v (.int .i64 y1)),.c (.v (.int .i64 y4)),.c (.v (.int .i64 y7)),.c (.v (.string s13)),.c (.v (.string s17)),.c (.v (.int .i64 j20)),.c (.v (.int .i64 j21)),.c (.v (.string j22)),.c (.sl 3 [] (some [])),.c (.sl 5 [] (some [])),.c (.v (.int .i64 j34)),.c (.v (.int .i64 j35)),.c (.v (.string j36)),.c (.sl 3 j37 none),.c (.sl 5 j38 none),.c (.sl 6 [] (some []))]),(7000,.blk 1 [.c (.v (.string s51)),.c (.v (.int .i64 j54)),.c (.v (.int .i64 j55)),.c (.v (.string j56)),.c (.sl 3 j57 none),.c (.sl 5 j58 none)])],2⟩)∨(j57=[]∧j58=[]∧tm=frame 0 93 [(0,.p 0 0 0),(2,.p 3000 1 0),(3,.p 4000 1 0),(6,.p 7000 1 0),(64,.c (.v (.int .i64 y39))),(65,.c (.v (.int .i64 z47)))]∧m=⟨[(0,.blk 0 [.c (.sl 1 j52 none),.c (.v (.int .i64 j53))]),(3000,.blk 1 [.c (.v (.int .i64 0)),.c (.v (.int .i64 0)),.c (.v (.int .i64 0)),.c (.v (.string ⟨#[]⟩)),.c (.v (.string ⟨#[]⟩)),.c (.v (.int .i64 0)),.c (.v (.int .i64 0)),.c (.v (.string ⟨#[]⟩)),.c (.sl 3 [] (some [])),.c (.sl 5 [] (some [])),.c (.v (.int .i64 0)),.c (.v (.int .i64 0)),.c (.v (.string ⟨#[]⟩)),.c (.sl 3 [] (some [])),.c (.sl 5 [] (some [])),.c (.sl 6 [] (some []))]),(4000,.blk 1 [.c (.v (.int .i64 y1)),.c (.v (.int .i64 y4)),.c (.v (.int .i64 y7)),.c (.v (.string s13)),.c (.v (.string s17)),.c (.v (.int .i64 j20)),.c (.v (.int .i64 j21)),.c (.v (.string j22)),.c (.sl 3 [] (some [])),.c (.sl 5 [] (some [])),.c (.v (.int .i64 j34)),.c (.v (.int .i64 j35)),.c (.v (.string j36)),.c (.sl 3 j37 none),.c (.sl 5 j38 none),.c (.sl 6 [] (some []))]),(7000,.blk 1 [.c (.v (.string s51)),.c (.v (.int .i64 j54)),.c (.v (.int .i64 j55)),.c (.v (.string j56)),.c (.sl 3 [] (some [])),.c (.sl 5 [] (some []))])],2⟩))∧p76_1 False fu K0 (p76_2L False fu K0 y1 y4 y7 s13 s17 j20 j21 j22 nilE nilE j34 j35 j36 j37 j38 y39 n1) nilE z47 s51 j52 j53 j54 j55 j56 j57 j58) (fun k3 h L hL_1=>?_) (fun k3 h L hL_1=>?_) ?_
 conv=>cbv
 refine z0b hO [.ref 2] (d_p65 fu O.len hN h) ?_
 intro e Q a b
 conv=>cbv
 refine⟨by subst a hO;rfl,?_⟩
 intro r bs d
 rw [b] at d
 clear a b h
 obtain⟨y59,y60,y61,y62,y63,y64,y65,⟨rfl,rfl⟩,h⟩:=d
 conv=>cbv
 exact hL_1 _ _ ⟨y64,y65,y59,y60,y61,y62,y63,(.inl ⟨(by (conv=>lhs;cbv)<;>(subst hO;rfl)),(by (conv=>lhs;cbv)<;>(subst hO;rfl))⟩),h⟩
 conv=>cbv
 exact hL_1 _ _ ⟨y49,y50,0,0,⟨#[]⟩,nilE,nilE,(.inr ⟨rfl,rfl,(by (conv=>lhs;cbv)<;>(subst hO;rfl)),(by (conv=>lhs;cbv)<;>(subst hO;rfl))⟩),h⟩
 rintro tm m ⟨j52,j53,j54,j55,j56,j57,j58,hs,h⟩
 unfold p76_1 at h
 rcases hs with hs | hs
 obtain⟨rfl,rfl⟩:=hs
 conv=>cbv
 refine z0s hO h (fun g=>(by subst hO;exact g)) (fun h=>?_)
 conv=>cbv
 refine and_h h (fun g=>(by subst hO;exact g)) (fun h=>?_)
 refine z2l hO (by subst hO;exact List.cons_ne_nil _ _) ?_
 conv=>cbv
 exact hLn1 n1 _ _ (Nat.lt_succ_self n1) ⟨j52,j53,(nilE++(List.take 1 [[(CV.v (.string s51)),(CV.v (.int .i64 j54)),(CV.v (.int .i64 j55)),(CV.v (.string j56)),(CV.sl 3 j57 none),(CV.sl 5 j58 none)]])),z0d .add .i64 z47 1,(.inr ⟨(by (conv=>lhs;cbv)<;>(subst hO;rfl)),(by (conv=>lhs;cbv)<;>(subst hO;rfl))⟩),h⟩
 obtain⟨rfl,rfl,rfl,rfl⟩:=hs
 conv=>cbv
 refine z0s hO h (fun g=>(by subst hO;exact g)) (fun h=>?_)
 conv=>cbv
 refine and_h h (fun g=>(by subst hO;exact g)) (fun h=>?_)
 refine z2l hO (by subst hO;exact List.cons_ne_nil _ _) ?_
 conv=>cbv
 exact hLn1 n1 _ _ (Nat.lt_succ_self n1) ⟨j52,j53,(nilE++(List.take 1 [[(CV.v (.string s51)),(CV.v (.int .i64 j54)),(CV.v (.int .i64 j55)),(CV.v (.string j56)),(CV.sl 3 nilE none),(CV.sl 5 nilE none)]])),z0d .add .i64 z47 1,(.inr ⟨(by (conv=>lhs;cbv)<;>(subst hO;rfl)),(by (conv=>lhs;cbv)<;>(subst hO;rfl))⟩),h⟩
 conv=>cbv
 rw [b]
 exact⟨y1,y4,y7,s13,s17,j20,j21,j22,nilE,nilE,j34,j35,j36,j37,j38,nilE,z44,z45,⟨(by subst hO;rfl),(by subst hO;rfl)⟩,h⟩
 obtain⟨rfl,rfl⟩:=hs
 conv=>cbv
 refine br_h hO h (by subst hO;rfl) (fun k1 h=>?_) (fun k1 h=>?_)
 conv=>cbv
 refine z0c hO ?_
 conv=>cbv
 refine br_h hO h (by subst hO;rfl) (fun k2 h=>?_) (fun k2 h=>?_)
 conv=>cbv
 refine z0j hO ?_
 conv=>cbv
 rw [b]
 exact⟨y1,y4,y7,s13,s17,j20,j21,j22,nilE,nilE,j34,j35,j36,j37,j38,z46,z44,z45,⟨(by subst hO;rfl),(by subst hO;rfl)⟩,h⟩
 conv=>cbv
 refine z0c hO ?_
 conv=>cbv
 refine z0b hO [.ref 2,.shut] (d_p95 fu O.len hN h) ?_
 intro e Q a b
 conv=>cbv
 refine⟨by subst a hO;rfl,?_⟩
 intro r bs d
 rw [b] at d
 clear a b h
 obtain⟨y48,y49,y50,_,⟨rfl,rfl⟩,h⟩:=d
 conv=>cbv
 refine tob_h hO h (by subst hO;rfl) (fun s51 h=>?_)
 conv=>cbv
 refine z0f hO tiA h (by subst hO;rfl) [0,2,3,6,64,65] [0,3000,4000,7000,90000] [] (fun tm m=>∃ (j52:EL) (j53:Int) (j54:Int) (j55:Int) (j56:ByteArray) (j57:EL) (j58:EL),((tm=frame 0 93 [(0,.p 0 0 0),(2,.p 3000 1 0),(3,.p 4000 1 0),(6,.p 7000 1 0),(64,.c (.v (.int .i64 y39))),(65,.c (.v (.int .i64 z47)))]∧m=⟨[(0,.blk 0 [.c (.sl 1 j52 none),.c (.v (.int .i64 j53))]),(3000,.blk 1 [.c (.v (.int .i64 0)),.c (.v (.int .i64 0)),.c (.v (.int .i64 0)),.c (.v (.string ⟨#[]⟩)),.c (.v (.string ⟨#[]⟩)),.c (.v (.int .i64 0)),.c (.v (.int .i64 0)),.c (.v (.string ⟨#[]⟩)),.c (.sl 3 [] (some [])),.c (.sl 5 [] (some [])),.c (.v (.int .i64 0)),.c (.v (.int .i64 0)),.c (.v (.string ⟨#[]⟩)),.c (.sl 3 [] (some [])),.c (.sl 5 [] (some [])),.c (.sl 6 [] (some []))]),(4000,.blk 1 [.c (.v (.int .i64 y1)),.c (.v (.int .i64 y4)),.c (.v (.int .i64 y7)),.c (.v (.string s13)),.c (.v (.string s17)),.c (.v (.int .i64 j20)),.c (.v (.int .i64 j21)),.c (.v (.string j22)),.c (.sl 3 [] (some [])),.c (.sl 5 [] (some [])),.c (.v (.int .i64 j34)),.c (.v (.int .i64 j35)),.c (.v (.string j36)),.c (.sl 3 j37 none),.c (.sl 5 j38 none),.t 90000 1 (O.len z46)]),(7000,.blk 1 [.c (.v (.string s51)),.c (.v (.int .i64 j54)),.c (.v (.int .i64 j55)),.c (.v (.string j56)),.c (.sl 3 j57 none),.c (.sl 5 j58 none)]),(90000,.arr 1 6 z46 none false)],2⟩)∨(j57=[]∧j58=[]∧tm=frame 0 93 [(0,.p 0 0 0),(2,.p 3000 1 0),(3,.p 4000 1 0),(6,.p 7000 1 0),(64,.c (.v (.int .i64 y39))),(65,.c (.v (.int .i64 z47)))]∧m=⟨[(0,.blk 0 [.c (.sl 1 j52 none),.c (.v (.int .i64 j53))]),(3000,.blk 1 [.c (.v (.int .i64 0)),.c (.v (.int .i64 0)),.c (.v (.int .i64 0)),.c (.v (.string ⟨#[]⟩)),.c (.v (.string ⟨#[]⟩)),.c (.v (.int .i64 0)),.c (.v (.int .i64 0)),.c (.v (.string ⟨#[]⟩)),.c (.sl 3 [] (some [])),.c (.sl 5 [] (some [])),.c (.v (.int .i64 0)),.c (.v (.int .i64 0)),.c (.v (.string ⟨#[]⟩)),.c (.sl 3 [] (some [])),.c (.sl 5 [] (some [])),.c (.sl 6 [] (some []))]),(4000,.blk 1 [.c (.v (.int .i64 y1)),.c (.v (.int .i64 y4)),.c (.v (.int .i64 y7)),.c (.v (.string s13)),.c (.v (.string s17)),.c (.v (.int .i64 j20)),.c (.v (.int .i64 j21)),.c (.v (.string j22)),.c (.sl 3 [] (some [])),.c (.sl 5 [] (some [])),.c (.v (.int .i64 j34)),.c (.v (.int .i64 j35)),.c (.v (.string j36)),.c (.sl 3 j37 none),.c (.sl 5 j38 none),.t 90000 1 (O.len z46)]),(7000,.blk 1 [.c (.v (.string s51)),.c (.v (.int .i64 j54)),.c (.v (.int .i64 j55)),.c (.v (.string j56)),.c (.sl 3 [] (some [])),.c (.sl 5 [] (some []))]),(90000,.arr 1 6 z46 none false)],2⟩))∧p76_1 False fu K0 (p76_2L False fu K0 y1 y4 y7 s13 s17 j20 j21 j22 nilE nilE j34 j35 j36 j37 j38 y39 n1) z46 z47 s51 j52 j53 j54 j55 j56 j57 j58) (fun k3 h L hL_1=>?_) (fun k3 h L hL_1=>?_) ?_
 conv=>cbv
 refine z0b hO [.ref 2] (d_p65 fu O.len hN h) ?_
 intro e Q a b
 conv=>cbv
 refine⟨by subst a hO;rfl,?_⟩
 intro r bs d
 rw [b] at d
 clear a b h
 obtain⟨y59,y60,y61,y62,y63,y64,y65,⟨rfl,rfl⟩,h⟩:=d
 conv=>cbv
 exact hL_1 _ _ ⟨y64,y65,y59,y60,y61,y62,y63,(.inl ⟨(by (conv=>lhs;cbv)<;>(subst hO;rfl)),(by (conv=>lhs;cbv)<;>(subst hO;rfl))⟩),h⟩
 conv=>cbv
 exact hL_1 _ _ ⟨y49,y50,0,0,⟨#[]⟩,nilE,nilE,(.inr ⟨rfl,rfl,(by (conv=>lhs;cbv)<;>(subst hO;rfl)),(by (conv=>lhs;cbv)<;>(subst hO;rfl))⟩),h⟩
 rintro tm m ⟨j52,j53,j54,j55,j56,j57,j58,hs,h⟩
 unfold p76_1 at h
 rcases hs with hs | hs
 obtain⟨rfl,rfl⟩:=hs
 conv=>cbv
 refine z0s hO h (fun g=>(by subst hO;exact g)) (fun h=>?_)
 conv=>cbv
 refine⟨(by subst hO;rfl),?_⟩
 refine and_h h (fun g=>(by subst hO;exact g)) (fun h=>?_)
 exact hLn1 n1 _ _ (Nat.lt_succ_self n1) ⟨j52,j53,(z46++(List.take 1 [[(CV.v (.string s51)),(CV.v (.int .i64 j54)),(CV.v (.int .i64 j55)),(CV.v (.string j56)),(CV.sl 3 j57 none),(CV.sl 5 j58 none)]])),z0d .add .i64 z47 1,(.inr ⟨(by (conv=>lhs;cbv)<;>(subst hO;rfl)),(by (conv=>lhs;cbv)<;>(subst hO;rfl))⟩),h⟩
 obtain⟨rfl,rfl,rfl,rfl⟩:=hs
 conv=>cbv
 refine z0s hO h (fun g=>(by subst hO;exact g)) (fun h=>?_)
 conv=>cbv
 refine⟨(by subst hO;rfl),?_⟩
 refine and_h h (fun g=>(by subst hO;exact g)) (fun h=>?_)
 exact hLn1 n1 _ _ (Nat.lt_succ_self n1) ⟨j52,j53,(z46++(List.take 1 [[(CV.v (.string s51)),(CV.v (.int .i64 j54)),(CV.v (.int .i64 j55)),(CV.v (.string j56)),(CV.sl 3 nilE none),(CV.sl 5 nilE none)]])),z0d .add .i64 z47 1,(.inr ⟨(by (conv=>lhs;cbv)<;>(subst hO;rfl)),(by (conv=>lhs;cbv)<;>(subst hO;rfl))⟩),h⟩
 conv=>cbv
 refine z0j hO ?_
 conv=>cbv
 rw [b]
 exact⟨y1,y4,y7,s13,s17,j20,j21,j22,nilE,nilE,j34,j35,j36,j37,j38,z46,z44,z45,⟨(by subst hO;rfl),(by subst hO;rfl)⟩,h⟩)
 obtain⟨rfl,rfl,rfl,rfl⟩:=hs
 conv=>cbv
 refine z0b hO [.ref 2] (d_p91 fu O.len hN h) ?_
 intro e Q a b
 conv=>cbv
 refine⟨by subst a hO;rfl,?_⟩
 intro r bs d
 rw [b] at d
 clear a b h
 obtain⟨y39,y40,y41,⟨rfl,rfl⟩,h⟩:=d
 conv=>cbv
 refine z0f hO tiA h (by subst hO;rfl) [0,2,3,5] [0,3000,4000] [] (fun tm m=>∃ (j42:EL) (j43:Int),((tm=frame 0 93 [(0,.p 0 0 0),(2,.p 3000 1 0),(3,.p 4000 1 0),(5,.c (.v (.int .i64 y39)))]∧m=⟨[(0,.blk 0 [.c (.sl 1 j42 none),.c (.v (.int .i64 j43))]),(3000,.blk 1 [.c (.v (.int .i64 0)),.c (.v (.int .i64 0)),.c (.v (.int .i64 0)),.c (.v (.string ⟨#[]⟩)),.c (.v (.string ⟨#[]⟩)),.c (.v (.int .i64 0)),.c (.v (.int .i64 0)),.c (.v (.string ⟨#[]⟩)),.c (.sl 3 [] (some [])),.c (.sl 5 [] (some [])),.c (.v (.int .i64 0)),.c (.v (.int .i64 0)),.c (.v (.string ⟨#[]⟩)),.c (.sl 3 [] (some [])),.c (.sl 5 [] (some [])),.c (.sl 6 [] (some []))]),(4000,.blk 1 [.c (.v (.int .i64 y1)),.c (.v (.int .i64 y4)),.c (.v (.int .i64 y7)),.c (.v (.string s13)),.c (.v (.string s17)),.c (.v (.int .i64 j20)),.c (.v (.int .i64 j21)),.c (.v (.string j22)),.c (.sl 3 [] (some [])),.c (.sl 5 [] (some [])),.c (.v (.int .i64 j34)),.c (.v (.int .i64 j35)),.c (.v (.string j36)),.c (.sl 3 [] (some [])),.c (.sl 5 [] (some [])),.c (.sl 6 [] (some []))])],2⟩))∧p76_3 False fu K0 y1 y4 y7 s13 s17 j20 j21 j22 nilE nilE j34 j35 j36 nilE nilE y39 j42 j43) (fun k4 h L hL_3=>?_) (fun k4 h L hL_3=>?_) ?_
 conv=>cbv
 refine z0b hO [.ref 2,.shut] (d_p94 fu O.len hN h) ?_
 intro e Q a b
 conv=>cbv
 refine⟨by subst a hO;rfl,?_⟩
 intro r bs d
 rw [b] at d
 clear a b h
 obtain⟨y66,y67,_,⟨rfl,rfl⟩,h⟩:=d
 conv=>cbv
 exact hL_3 _ _ ⟨y66,y67,⟨(by (conv=>lhs;cbv)<;>(subst hO;rfl)),(by (conv=>lhs;cbv)<;>(subst hO;rfl))⟩,h⟩
 conv=>cbv
 exact hL_3 _ _ ⟨y40,y41,⟨(by (conv=>lhs;cbv)<;>(subst hO;rfl)),(by (conv=>lhs;cbv)<;>(subst hO;rfl))⟩,h⟩
 rintro tm m ⟨j42,j43,hs,h⟩
 unfold p76_3 at h
 obtain⟨rfl,rfl⟩:=hs
 conv=>cbv
 refine z0v hO tiA [0,2,3,64,65] [0,3000,4000,90000] [] (fun (n:Nat) tm m=>∃ (z44:EL) (z45:Int) (z46:EL) (z47:Int),((z46=[]∧tm=frame 0 93 [(0,.p 0 0 0),(2,.p 3000 1 0),(3,.p 4000 1 0),(64,.c (.v (.int .i64 y39))),(65,.c (.v (.int .i64 z47)))]∧m=⟨[(0,.blk 0 [.c (.sl 1 z44 none),.c (.v (.int .i64 z45))]),(3000,.blk 1 [.c (.v (.int .i64 0)),.c (.v (.int .i64 0)),.c (.v (.int .i64 0)),.c (.v (.string ⟨#[]⟩)),.c (.v (.string ⟨#[]⟩)),.c (.v (.int .i64 0)),.c (.v (.int .i64 0)),.c (.v (.string ⟨#[]⟩)),.c (.sl 3 [] (some [])),.c (.sl 5 [] (some [])),.c (.v (.int .i64 0)),.c (.v (.int .i64 0)),.c (.v (.string ⟨#[]⟩)),.c (.sl 3 [] (some [])),.c (.sl 5 [] (some [])),.c (.sl 6 [] (some []))]),(4000,.blk 1 [.c (.v (.int .i64 y1)),.c (.v (.int .i64 y4)),.c (.v (.int .i64 y7)),.c (.v (.string s13)),.c (.v (.string s17)),.c (.v (.int .i64 j20)),.c (.v (.int .i64 j21)),.c (.v (.string j22)),.c (.sl 3 [] (some [])),.c (.sl 5 [] (some [])),.c (.v (.int .i64 j34)),.c (.v (.int .i64 j35)),.c (.v (.string j36)),.c (.sl 3 [] (some [])),.c (.sl 5 [] (some [])),.c (.sl 6 [] (some []))])],2⟩)∨(tm=frame 0 93 [(0,.p 0 0 0),(2,.p 3000 1 0),(3,.p 4000 1 0),(64,.c (.v (.int .i64 y39))),(65,.c (.v (.int .i64 z47)))]∧m=⟨[(0,.blk 0 [.c (.sl 1 z44 none),.c (.v (.int .i64 z45))]),(3000,.blk 1 [.c (.v (.int .i64 0)),.c (.v (.int .i64 0)),.c (.v (.int .i64 0)),.c (.v (.string ⟨#[]⟩)),.c (.v (.string ⟨#[]⟩)),.c (.v (.int .i64 0)),.c (.v (.int .i64 0)),.c (.v (.string ⟨#[]⟩)),.c (.sl 3 [] (some [])),.c (.sl 5 [] (some [])),.c (.v (.int .i64 0)),.c (.v (.int .i64 0)),.c (.v (.string ⟨#[]⟩)),.c (.sl 3 [] (some [])),.c (.sl 5 [] (some [])),.c (.sl 6 [] (some []))]),(4000,.blk 1 [.c (.v (.int .i64 y1)),.c (.v (.int .i64 y4)),.c (.v (.int .i64 y7)),.c (.v (.string s13)),.c (.v (.string s17)),.c (.v (.int .i64 j20)),.c (.v (.int .i64 j21)),.c (.v (.string j22)),.c (.sl 3 [] (some [])),.c (.sl 5 [] (some [])),.c (.v (.int .i64 j34)),.c (.v (.int .i64 j35)),.c (.v (.string j36)),.c (.sl 3 [] (some [])),.c (.sl 5 [] (some [])),.t 90000 1 (O.len z46)]),(90000,.arr 1 6 z46 none false)],2⟩))∧p76_2L False fu K0 y1 y4 y7 s13 s17 j20 j21 j22 nilE nilE j34 j35 j36 nilE nilE y39 n z44 z45 z46 z47) (fun n=>n) fu ⟨j42,j43,nilE,0,(.inl ⟨rfl,(by (conv=>lhs;cbv)<;>(subst hO;rfl)),(by (conv=>lhs;cbv)<;>(subst hO;rfl))⟩),h⟩ ?_
 rintro n1 tm m L ⟨z44,z45,z46,z47,hs,h⟩ hLn1
 (cases n1 with
 | zero=>rw [p76_2L] at h;exact h.elim
 | succ n1 =>
 rw [p76_2L] at h
 unfold p76_2 at h
 rcases hs with hs | hs
 obtain⟨rfl,rfl,rfl⟩:=hs
 conv=>cbv
 refine br_h hO h (by subst hO;rfl) (fun k1 h=>?_) (fun k1 h=>?_)
 conv=>cbv
 refine z0c hO ?_
 conv=>cbv
 refine br_h hO h (by subst hO;rfl) (fun k2 h=>?_) (fun k2 h=>?_)
 conv=>cbv
 rw [b]
 exact⟨y1,y4,y7,s13,s17,j20,j21,j22,nilE,nilE,j34,j35,j36,nilE,nilE,nilE,z44,z45,⟨(by subst hO;rfl),(by subst hO;rfl)⟩,h⟩
 conv=>cbv
 refine z0c hO ?_
 conv=>cbv
 refine z0b hO [.ref 2,.shut] (d_p95 fu O.len hN h) ?_
 intro e Q a b
 conv=>cbv
 refine⟨by subst a hO;rfl,?_⟩
 intro r bs d
 rw [b] at d
 clear a b h
 obtain⟨y48,y49,y50,_,⟨rfl,rfl⟩,h⟩:=d
 conv=>cbv
 refine tob_h hO h (by subst hO;rfl) (fun s51 h=>?_)
 conv=>cbv
 refine z0f hO tiA h (by subst hO;rfl) [0,2,3,6,64,65] [0,3000,4000,7000] [] (fun tm m=>∃ (j52:EL) (j53:Int) (j54:Int) (j55:Int) (j56:ByteArray) (j57:EL) (j58:EL),((tm=frame 0 93 [(0,.p 0 0 0),(2,.p 3000 1 0),(3,.p 4000 1 0),(6,.p 7000 1 0),(64,.c (.v (.int .i64 y39))),(65,.c (.v (.int .i64 z47)))]∧m=⟨[(0,.blk 0 [.c (.sl 1 j52 none),.c (.v (.int .i64 j53))]),(3000,.blk 1 [.c (.v (.int .i64 0)),.c (.v (.int .i64 0)),.c (.v (.int .i64 0)),.c (.v (.string ⟨#[]⟩)),.c (.v (.string ⟨#[]⟩)),.c (.v (.int .i64 0)),.c (.v (.int .i64 0)),.c (.v (.string ⟨#[]⟩)),.c (.sl 3 [] (some [])),.c (.sl 5 [] (some [])),.c (.v (.int .i64 0)),.c (.v (.int .i64 0)),.c (.v (.string ⟨#[]⟩)),.c (.sl 3 [] (some [])),.c (.sl 5 [] (some [])),.c (.sl 6 [] (some []))]),(4000,.blk 1 [.c (.v (.int .i64 y1)),.c (.v (.int .i64 y4)),.c (.v (.int .i64 y7)),.c (.v (.string s13)),.c (.v (.string s17)),.c (.v (.int .i64 j20)),.c (.v (.int .i64 j21)),.c (.v (.string j22)),.c (.sl 3 [] (some [])),.c (.sl 5 [] (some [])),.c (.v (.int .i64 j34)),.c (.v (.int .i64 j35)),.c (.v (.string j36)),.c (.sl 3 [] (some [])),.c (.sl 5 [] (some [])),.c (.sl 6 [] (some []))]),(7000,.blk 1 [.c (.v (.string s51)),.c (.v (.int .i64 j54)),.c (.v (.int .i64 j55)),.c (.v (.string j56)),.c (.sl 3 j57 none),.c (.sl 5 j58 none)])],2⟩)∨(j57=[]∧j58=[]∧tm=frame 0 93 [(0,.p 0 0 0),(2,.p 3000 1 0),(3,.p 4000 1 0),(6,.p 7000 1 0),(64,.c (.v (.int .i64 y39))),(65,.c (.v (.int .i64 z47)))]∧m=⟨[(0,.blk 0 [.c (.sl 1 j52 none),.c (.v (.int .i64 j53))]),(3000,.blk 1 [.c (.v (.int .i64 0)),.c (.v (.int .i64 0)),.c (.v (.int .i64 0)),.c (.v (.string ⟨#[]⟩)),.c (.v (.string ⟨#[]⟩)),.c (.v (.int .i64 0)),.c (.v (.int .i64 0)),.c (.v (.string ⟨#[]⟩)),.c (.sl 3 [] (some [])),.c (.sl 5 [] (some [])),.c (.v (.int .i64 0)),.c (.v (.int .i64 0)),.c (.v (.string ⟨#[]⟩)),.c (.sl 3 [] (some [])),.c (.sl 5 [] (some [])),.c (.sl 6 [] (some []))]),(4000,.blk 1 [.c (.v (.int .i64 y1)),.c (.v (.int .i64 y4)),.c (.v (.int .i64 y7)),.c (.v (.string s13)),.c (.v (.string s17)),.c (.v (.int .i64 j20)),.c (.v (.int .i64 j21)),.c (.v (.string j22)),.c (.sl 3 [] (some [])),.c (.sl 5 [] (some [])),.c (.v (.int .i64 j34)),.c (.v (.int .i64 j35)),.c (.v (.string j36)),.c (.sl 3 [] (some [])),.c (.sl 5 [] (some [])),.c (.sl 6 [] (some []))]),(7000,.blk 1 [.c (.v (.string s51)),.c (.v (.int .i64 j54)),.c (.v (.int .i64 j55)),.c (.v (.string j56)),.c (.sl 3 [] (some [])),.c (.sl 5 [] (some []))])],2⟩))∧p76_1 False fu K0 (p76_2L False fu K0 y1 y4 y7 s13 s17 j20 j21 j22 nilE nilE j34 j35 j36 nilE nilE y39 n1) nilE z47 s51 j52 j53 j54 j55 j56 j57 j58) (fun k3 h L hL_1=>?_) (fun k3 h L hL_1=>?_) ?_
 conv=>cbv
 refine z0b hO [.ref 2] (d_p65 fu O.len hN h) ?_
 intro e Q a b
 conv=>cbv
 refine⟨by subst a hO;rfl,?_⟩
 intro r bs d
 rw [b] at d
 clear a b h
 obtain⟨y59,y60,y61,y62,y63,y64,y65,⟨rfl,rfl⟩,h⟩:=d
 conv=>cbv
 exact hL_1 _ _ ⟨y64,y65,y59,y60,y61,y62,y63,(.inl ⟨(by (conv=>lhs;cbv)<;>(subst hO;rfl)),(by (conv=>lhs;cbv)<;>(subst hO;rfl))⟩),h⟩
 conv=>cbv
 exact hL_1 _ _ ⟨y49,y50,0,0,⟨#[]⟩,nilE,nilE,(.inr ⟨rfl,rfl,(by (conv=>lhs;cbv)<;>(subst hO;rfl)),(by (conv=>lhs;cbv)<;>(subst hO;rfl))⟩),h⟩
 rintro tm m ⟨j52,j53,j54,j55,j56,j57,j58,hs,h⟩
 unfold p76_1 at h
 rcases hs with hs | hs
 obtain⟨rfl,rfl⟩:=hs
 conv=>cbv
 refine z0s hO h (fun g=>(by subst hO;exact g)) (fun h=>?_)
 conv=>cbv
 refine and_h h (fun g=>(by subst hO;exact g)) (fun h=>?_)
 refine z2l hO (by subst hO;exact List.cons_ne_nil _ _) ?_
 conv=>cbv
 exact hLn1 n1 _ _ (Nat.lt_succ_self n1) ⟨j52,j53,(nilE++(List.take 1 [[(CV.v (.string s51)),(CV.v (.int .i64 j54)),(CV.v (.int .i64 j55)),(CV.v (.string j56)),(CV.sl 3 j57 none),(CV.sl 5 j58 none)]])),z0d .add .i64 z47 1,(.inr ⟨(by (conv=>lhs;cbv)<;>(subst hO;rfl)),(by (conv=>lhs;cbv)<;>(subst hO;rfl))⟩),h⟩
 obtain⟨rfl,rfl,rfl,rfl⟩:=hs
 conv=>cbv
 refine z0s hO h (fun g=>(by subst hO;exact g)) (fun h=>?_)
 conv=>cbv
 refine and_h h (fun g=>(by subst hO;exact g)) (fun h=>?_)
 refine z2l hO (by subst hO;exact List.cons_ne_nil _ _) ?_
 conv=>cbv
 exact hLn1 n1 _ _ (Nat.lt_succ_self n1) ⟨j52,j53,(nilE++(List.take 1 [[(CV.v (.string s51)),(CV.v (.int .i64 j54)),(CV.v (.int .i64 j55)),(CV.v (.string j56)),(CV.sl 3 nilE none),(CV.sl 5 nilE none)]])),z0d .add .i64 z47 1,(.inr ⟨(by (conv=>lhs;cbv)<;>(subst hO;rfl)),(by (conv=>lhs;cbv)<;>(subst hO;rfl))⟩),h⟩
 conv=>cbv
 rw [b]
 exact⟨y1,y4,y7,s13,s17,j20,j21,j22,nilE,nilE,j34,j35,j36,nilE,nilE,nilE,z44,z45,⟨(by subst hO;rfl),(by subst hO;rfl)⟩,h⟩
 obtain⟨rfl,rfl⟩:=hs
 conv=>cbv
 refine br_h hO h (by subst hO;rfl) (fun k1 h=>?_) (fun k1 h=>?_)
 conv=>cbv
 refine z0c hO ?_
 conv=>cbv
 refine br_h hO h (by subst hO;rfl) (fun k2 h=>?_) (fun k2 h=>?_)
 conv=>cbv
 refine z0j hO ?_
 conv=>cbv
 rw [b]
 exact⟨y1,y4,y7,s13,s17,j20,j21,j22,nilE,nilE,j34,j35,j36,nilE,nilE,z46,z44,z45,⟨(by subst hO;rfl),(by subst hO;rfl)⟩,h⟩
 conv=>cbv
 refine z0c hO ?_
 conv=>cbv
 refine z0b hO [.ref 2,.shut] (d_p95 fu O.len hN h) ?_
 intro e Q a b
 conv=>cbv
 refine⟨by subst a hO;rfl,?_⟩
 intro r bs d
 rw [b] at d
 clear a b h
 obtain⟨y48,y49,y50,_,⟨rfl,rfl⟩,h⟩:=d
 conv=>cbv
 refine tob_h hO h (by subst hO;rfl) (fun s51 h=>?_)
 conv=>cbv
 refine z0f hO tiA h (by subst hO;rfl) [0,2,3,6,64,65] [0,3000,4000,7000,90000] [] (fun tm m=>∃ (j52:EL) (j53:Int) (j54:Int) (j55:Int) (j56:ByteArray) (j57:EL) (j58:EL),((tm=frame 0 93 [(0,.p 0 0 0),(2,.p 3000 1 0),(3,.p 4000 1 0),(6,.p 7000 1 0),(64,.c (.v (.int .i64 y39))),(65,.c (.v (.int .i64 z47)))]∧m=⟨[(0,.blk 0 [.c (.sl 1 j52 none),.c (.v (.int .i64 j53))]),(3000,.blk 1 [.c (.v (.int .i64 0)),.c (.v (.int .i64 0)),.c (.v (.int .i64 0)),.c (.v (.string ⟨#[]⟩)),.c (.v (.string ⟨#[]⟩)),.c (.v (.int .i64 0)),.c (.v (.int .i64 0)),.c (.v (.string ⟨#[]⟩)),.c (.sl 3 [] (some [])),.c (.sl 5 [] (some [])),.c (.v (.int .i64 0)),.c (.v (.int .i64 0)),.c (.v (.string ⟨#[]⟩)),.c (.sl 3 [] (some [])),.c (.sl 5 [] (some [])),.c (.sl 6 [] (some []))]),(4000,.blk 1 [.c (.v (.int .i64 y1)),.c (.v (.int .i64 y4)),.c (.v (.int .i64 y7)),.c (.v (.string s13)),.c (.v (.string s17)),.c (.v (.int .i64 j20)),.c (.v (.int .i64 j21)),.c (.v (.string j22)),.c (.sl 3 [] (some [])),.c (.sl 5 [] (some [])),.c (.v (.int .i64 j34)),.c (.v (.int .i64 j35)),.c (.v (.string j36)),.c (.sl 3 [] (some [])),.c (.sl 5 [] (some [])),.t 90000 1 (O.len z46)]),(7000,.blk 1 [.c (.v (.string s51)),.c (.v (.int .i64 j54)),.c (.v (.int .i64 j55)),.c (.v (.string j56)),.c (.sl 3 j57 none),.c (.sl 5 j58 none)]),(90000,.arr 1 6 z46 none false)],2⟩)∨(j57=[]∧j58=[]∧tm=frame 0 93 [(0,.p 0 0 0),(2,.p 3000 1 0),(3,.p 4000 1 0),(6,.p 7000 1 0),(64,.c (.v (.int .i64 y39))),(65,.c (.v (.int .i64 z47)))]∧m=⟨[(0,.blk 0 [.c (.sl 1 j52 none),.c (.v (.int .i64 j53))]),(3000,.blk 1 [.c (.v (.int .i64 0)),.c (.v (.int .i64 0)),.c (.v (.int .i64 0)),.c (.v (.string ⟨#[]⟩)),.c (.v (.string ⟨#[]⟩)),.c (.v (.int .i64 0)),.c (.v (.int .i64 0)),.c (.v (.string ⟨#[]⟩)),.c (.sl 3 [] (some [])),.c (.sl 5 [] (some [])),.c (.v (.int .i64 0)),.c (.v (.int .i64 0)),.c (.v (.string ⟨#[]⟩)),.c (.sl 3 [] (some [])),.c (.sl 5 [] (some [])),.c (.sl 6 [] (some []))]),(4000,.blk 1 [.c (.v (.int .i64 y1)),.c (.v (.int .i64 y4)),.c (.v (.int .i64 y7)),.c (.v (.string s13)),.c (.v (.string s17)),.c (.v (.int .i64 j20)),.c (.v (.int .i64 j21)),.c (.v (.string j22)),.c (.sl 3 [] (some [])),.c (.sl 5 [] (some [])),.c (.v (.int .i64 j34)),.c (.v (.int .i64 j35)),.c (.v (.string j36)),.c (.sl 3 [] (some [])),.c (.sl 5 [] (some [])),.t 90000 1 (O.len z46)]),(7000,.blk 1 [.c (.v (.string s51)),.c (.v (.int .i64 j54)),.c (.v (.int .i64 j55)),.c (.v (.string j56)),.c (.sl 3 [] (some [])),.c (.sl 5 [] (some []))]),(90000,.arr 1 6 z46 none false)],2⟩))∧p76_1 False fu K0 (p76_2L False fu K0 y1 y4 y7 s13 s17 j20 j21 j22 nilE nilE j34 j35 j36 nilE nilE y39 n1) z46 z47 s51 j52 j53 j54 j55 j56 j57 j58) (fun k3 h L hL_1=>?_) (fun k3 h L hL_1=>?_) ?_
 conv=>cbv
 refine z0b hO [.ref 2] (d_p65 fu O.len hN h) ?_
 intro e Q a b
 conv=>cbv
 refine⟨by subst a hO;rfl,?_⟩
 intro r bs d
 rw [b] at d
 clear a b h
 obtain⟨y59,y60,y61,y62,y63,y64,y65,⟨rfl,rfl⟩,h⟩:=d
 conv=>cbv
 exact hL_1 _ _ ⟨y64,y65,y59,y60,y61,y62,y63,(.inl ⟨(by (conv=>lhs;cbv)<;>(subst hO;rfl)),(by (conv=>lhs;cbv)<;>(subst hO;rfl))⟩),h⟩
 conv=>cbv
 exact hL_1 _ _ ⟨y49,y50,0,0,⟨#[]⟩,nilE,nilE,(.inr ⟨rfl,rfl,(by (conv=>lhs;cbv)<;>(subst hO;rfl)),(by (conv=>lhs;cbv)<;>(subst hO;rfl))⟩),h⟩
 rintro tm m ⟨j52,j53,j54,j55,j56,j57,j58,hs,h⟩
 unfold p76_1 at h
 rcases hs with hs | hs
 obtain⟨rfl,rfl⟩:=hs
 conv=>cbv
 refine z0s hO h (fun g=>(by subst hO;exact g)) (fun h=>?_)
 conv=>cbv
 refine⟨(by subst hO;rfl),?_⟩
 refine and_h h (fun g=>(by subst hO;exact g)) (fun h=>?_)
 exact hLn1 n1 _ _ (Nat.lt_succ_self n1) ⟨j52,j53,(z46++(List.take 1 [[(CV.v (.string s51)),(CV.v (.int .i64 j54)),(CV.v (.int .i64 j55)),(CV.v (.string j56)),(CV.sl 3 j57 none),(CV.sl 5 j58 none)]])),z0d .add .i64 z47 1,(.inr ⟨(by (conv=>lhs;cbv)<;>(subst hO;rfl)),(by (conv=>lhs;cbv)<;>(subst hO;rfl))⟩),h⟩
 obtain⟨rfl,rfl,rfl,rfl⟩:=hs
 conv=>cbv
 refine z0s hO h (fun g=>(by subst hO;exact g)) (fun h=>?_)
 conv=>cbv
 refine⟨(by subst hO;rfl),?_⟩
 refine and_h h (fun g=>(by subst hO;exact g)) (fun h=>?_)
 exact hLn1 n1 _ _ (Nat.lt_succ_self n1) ⟨j52,j53,(z46++(List.take 1 [[(CV.v (.string s51)),(CV.v (.int .i64 j54)),(CV.v (.int .i64 j55)),(CV.v (.string j56)),(CV.sl 3 nilE none),(CV.sl 5 nilE none)]])),z0d .add .i64 z47 1,(.inr ⟨(by (conv=>lhs;cbv)<;>(subst hO;rfl)),(by (conv=>lhs;cbv)<;>(subst hO;rfl))⟩),h⟩
 conv=>cbv
 refine z0j hO ?_
 conv=>cbv
 rw [b]
 exact⟨y1,y4,y7,s13,s17,j20,j21,j22,nilE,nilE,j34,j35,j36,nilE,nilE,z46,z44,z45,⟨(by subst hO;rfl),(by subst hO;rfl)⟩,h⟩)
theorem d_p35 (fu:Nat){K0:Int→Int→Int→ByteArray→ByteArray→Int→Int→ByteArray→EL→EL→Int→Int→ByteArray→EL→EL→EL→Int→Int→Prop}(L:EL→Nat)(hN:L=List.length){x0:EL}(h:p35 False fu K0 x0):Den Try.prog G0 35 [.c (.sl 1 x0 none)] (fun r bs=>(∃ (y0 y1 y2:Int) (y3 y4:ByteArray) (y5 y6:Int) (y7:ByteArray) (y8 y9:EL) (y10 y11:Int) (y12:ByteArray) (y13 y14 y15:EL) (y16 y17:Int) (o0:OV),(r=.tup [.agg [.c (.v (.int .i64 y0)),.c (.v (.int .i64 y1)),.c (.v (.int .i64 y2)),.c (.v (.string y3)),.c (.v (.string y4)),.c (.v (.int .i64 y5)),.c (.v (.int .i64 y6)),.c (.v (.string y7)),.c (.sl 3 y8 none),.c (.sl 5 y9 none),.c (.v (.int .i64 y10)),.c (.v (.int .i64 y11)),.c (.v (.string y12)),.c (.sl 3 y13 none),.c (.sl 5 y14 none),.c (.sl 6 y15 none)],.c (.v (.int .i64 y16)),.c (.v (.int .i64 y17))]∧bs=[o0])∧K0 y0 y1 y2 y3 y4 y5 y6 y7 y8 y9 y10 y11 y12 y13 y14 y15 y16 y17)):=by
 obtain⟨O,hO⟩:∃ O,O=std 0 T G0 (Den Try.prog G0):=⟨_,rfl⟩
 have hLO:L=O.len:=by rw [hN,hO];rfl
 subst hLO
 refine den_h hO tiA mixed tabOk (fn:=Try.f35) (sh:=true) (by kernel_rfl) rfl rfl rfl rfl ?_
 intro Q b
 unfold p35 at h
 conv=>cbv
 refine z0b hO [.ref 2] (d_p76 fu O.len hN h) ?_
 intro e Q a b
 conv=>cbv
 refine⟨by subst a hO;rfl,?_⟩
 intro r bs d
 rw [b] at d
 clear a b h
 obtain⟨y1,y2,y3,y4,y5,y6,y7,y8,y9,y10,y11,y12,y13,y14,y15,y16,y17,y18,⟨rfl,rfl⟩,h⟩:=d
 conv=>cbv
 refine z0b hO [.ref 2,.shut] (d_p66 fu O.len hN h) ?_
 intro e Q a b
 conv=>cbv
 refine⟨by subst a hO;rfl,?_⟩
 intro r bs d
 rw [b] at d
 clear a b h
 obtain⟨y19,y20,y21,y22,_,⟨rfl,rfl⟩,h⟩:=d
 conv=>cbv
 refine br_h hO h (by subst hO;rfl) (fun k1 h=>?_) (fun k1 h=>?_)
 conv=>cbv
 rw [b]
 exact⟨0,0,0,⟨#[]⟩,⟨#[]⟩,0,0,⟨#[]⟩,nilE,nilE,0,0,⟨#[]⟩,nilE,nilE,nilE,0,y20,_,⟨(by subst hO;rfl),(by subst hO;rfl)⟩,h⟩
 conv=>cbv
 refine z0c hO ?_
 conv=>cbv
 rw [b]
 exact⟨y1,y2,y3,y4,y5,y6,y7,y8,y9,y10,y11,y12,y13,y14,y15,y16,y19,0,_,⟨(by subst hO;rfl),(by subst hO;rfl)⟩,h⟩
def p71_1 {ρ:Type} (fail:ρ) (fu:Nat) (K0:EL→ρ) (rec1:EL→Int→Int→ρ) (x16 z7:EL) (z8 z9:Int):ρ :=
 bif (z0a .lss z9 z8) then (gd ((0:Int)≤z9) fail (gd ((z9:Int) < (x16.length:Nat)) fail (z0l fail (List.getD x16 ((z9:Int).toNat) []) (fun c10 c11 c12 c13 c14 c15=>gd (c10.size≤(encB c10.data.toList).length) fail (p87 fail fu (fun y16=>p64 fail fu (fun y17=>rec1 y17 z8 (z0d .add .i64 z9 1)) y16 c11 c12 c13 c14 c15) z7 (List.take c10.size (encB c10.data.toList))))))) else (K0 z7)
def p71_1L {ρ:Type} (fail:ρ) (fu:Nat) (K0:EL→ρ) (x16:EL):Nat→EL→Int→Int→ρ
 | 0,_,_,_=>fail
 | n + 1,z7,z8,z9=>p71_1 fail fu K0 (p71_1L fail fu K0 x16 n) x16 z7 z8 z9
def p71_2 {ρ:Type} (fail:ρ) (fu:Nat) (K0:EL→ρ) (x16 j5:EL):ρ :=
 gd (1≤[[(CV.v (.int .i64 ((x16.length:Nat):Int)))]].length) fail (p83 fail fu (fun y6=>p71_1L fail fu K0 x16 fu y6 ((x16.length:Nat):Int) 0) j5 (List.take 1 [[(CV.v (.int .i64 ((x16.length:Nat):Int)))]]))
def p71 {ρ:Type} (fail:ρ) (fu:Nat) (K0:EL→ρ) (x0:EL) (x1 x2 x3:Int) (x4 x5:ByteArray) (x6 x7:Int) (x8:ByteArray) (x9 x10:EL) (x11 x12:Int) (x13:ByteArray) (x14 x15 x16:EL):ρ :=
 gd (3≤[[(CV.v (.int .i64 x1))],[(CV.v (.int .i64 x2))],[(CV.v (.int .i64 x3))]].length) fail (p83 fail fu (fun y1=>gd (x4.size≤(encB x4.data.toList).length) fail (p87 fail fu (fun y2=>gd (x5.size≤(encB x5.data.toList).length) fail (p87 fail fu (fun y3=>p64 fail fu (fun y4=>bif (z0a .eql x1 2) then (gd (1≤[[(CV.v (.int .i64 1))]].length) fail (p83 fail fu (fun y18=>p64 fail fu (fun y19=>p71_2 fail fu K0 x16 y19) y18 x11 x12 x13 x14 x15) y4 (List.take 1 [[(CV.v (.int .i64 1))]]))) else (gd (1≤[[(CV.v (.int .i64 0))]].length) fail (p83 fail fu (fun y20=>p71_2 fail fu K0 x16 y20) y4 (List.take 1 [[(CV.v (.int .i64 0))]])))) y3 x6 x7 x8 x9 x10) y2 (List.take x5.size (encB x5.data.toList)))) y1 (List.take x4.size (encB x4.data.toList)))) x0 (List.take 3 [[(CV.v (.int .i64 x1))],[(CV.v (.int .i64 x2))],[(CV.v (.int .i64 x3))]]))
def p27 {ρ:Type} (fail:ρ) (fu:Nat) (K0:EL→ρ) (x0:EL) (x1 x2 x3:Int) (x4 x5:ByteArray) (x6 x7:Int) (x8:ByteArray) (x9 x10:EL) (x11 x12:Int) (x13:ByteArray) (x14 x15 x16:EL):ρ :=
 p63 fail fu (fun y1=>p71 fail fu (fun y2=>K0 y2) y1 x1 x2 x3 x4 x5 x6 x7 x8 x9 x10 x11 x12 x13 x14 x15 x16) x0
theorem d_p71 (fu:Nat){K0:EL→Prop}(L:EL→Nat)(hN:L=List.length){x0:EL}{x1 x2 x3:Int}{x4 x5:ByteArray}{x6 x7:Int}{x8:ByteArray}{x9 x10:EL}{x11 x12:Int}{x13:ByteArray}{x14 x15 x16:EL}(h:p71 False fu K0 x0 x1 x2 x3 x4 x5 x6 x7 x8 x9 x10 x11 x12 x13 x14 x15 x16):Den Try.prog G0 71 [.ptr [.arr 1 x0 none false (L x0)],.agg [.c (.v (.int .i64 x1)),.c (.v (.int .i64 x2)),.c (.v (.int .i64 x3)),.c (.v (.string x4)),.c (.v (.string x5)),.c (.v (.int .i64 x6)),.c (.v (.int .i64 x7)),.c (.v (.string x8)),.c (.sl 3 x9 none),.c (.sl 5 x10 none),.c (.v (.int .i64 x11)),.c (.v (.int .i64 x12)),.c (.v (.string x13)),.c (.sl 3 x14 none),.c (.sl 5 x15 none),.c (.sl 6 x16 none)]] (fun r bs=>(∃ (y0:EL) (o1:OV),(r=.tup []∧bs=[.ptr [.arr 1 y0 none false (L y0)],o1])∧K0 y0)):=by
 obtain⟨O,hO⟩:∃ O,O=std 2 T G0 (Den Try.prog G0):=⟨_,rfl⟩
 have hLO:L=O.len:=by rw [hN,hO];rfl
 subst hLO
 refine den_h hO tiA mixed tabOk (fn:=Try.f71) (sh:=true) (by kernel_rfl) rfl rfl rfl rfl ?_
 intro Q b
 unfold p71 at h
 conv=>cbv
 have hz:=z0u h
 have k9:=hz.1
 replace h:=hz.2
 clear hz
 refine z0b hO [.ref 1,.shut] (d_p83 fu O.len hN h) ?_
 intro e Q a b
 conv=>cbv
 refine⟨(by subst hO;exact Nat.le_refl _),?_⟩
 refine z0r hO (by subst hO;exact k9) ?_
 conv=>cbv
 refine⟨by subst a hO;rfl,?_⟩
 intro r bs d
 rw [b] at d
 clear a b h
 obtain⟨y1,_,⟨rfl,rfl⟩,h⟩:=d
 conv=>cbv
 have hz:=z0u h
 have k8:=hz.1
 replace h:=hz.2
 clear hz
 refine z0b hO [.ref 1,.shut] (d_p87 fu O.len hN h) ?_
 intro e Q a b
 conv=>cbv
 refine⟨(by subst hO;exact Nat.le_refl _),?_⟩
 refine z0r hO (by subst hO;exact k8) ?_
 conv=>cbv
 refine⟨by subst a hO;rfl,?_⟩
 intro r bs d
 rw [b] at d
 clear a b h
 obtain⟨y2,_,⟨rfl,rfl⟩,h⟩:=d
 conv=>cbv
 have hz:=z0u h
 have k7:=hz.1
 replace h:=hz.2
 clear hz
 refine z0b hO [.ref 1,.shut] (d_p87 fu O.len hN h) ?_
 intro e Q a b
 conv=>cbv
 refine⟨(by subst hO;exact Nat.le_refl _),?_⟩
 refine z0r hO (by subst hO;exact k7) ?_
 conv=>cbv
 refine⟨by subst a hO;rfl,?_⟩
 intro r bs d
 rw [b] at d
 clear a b h
 obtain⟨y3,_,⟨rfl,rfl⟩,h⟩:=d
 conv=>cbv
 refine z0b hO [.ref 1,.shut] (d_p64 fu O.len hN h) ?_
 intro e Q a b
 conv=>cbv
 refine⟨(by subst hO;exact Nat.le_refl _),?_⟩
 refine⟨by subst a hO;rfl,?_⟩
 intro r bs d
 rw [b] at d
 clear a b h
 obtain⟨y4,_,⟨rfl,rfl⟩,h⟩:=d
 conv=>cbv
 refine z0f hO tiA h (by subst hO;rfl) [0,3] [0,4000,1000000] [] (fun tm m=>∃ (j5:EL),((tm=frame 0 65 [(0,.p 0 1 0),(3,.p 4000 2 0)]∧m=⟨[(0,.blk 1 [.t 1000000 2 (O.len j5)]),(4000,.blk 2 [.c (.v (.int .i64 x1)),.c (.v (.int .i64 x2)),.c (.v (.int .i64 x3)),.c (.v (.string x4)),.c (.v (.string x5)),.c (.v (.int .i64 x6)),.c (.v (.int .i64 x7)),.c (.v (.string x8)),.c (.sl 3 x9 none),.c (.sl 5 x10 none),.c (.v (.int .i64 x11)),.c (.v (.int .i64 x12)),.c (.v (.string x13)),.c (.sl 3 x14 none),.c (.sl 5 x15 none),.c (.sl 6 x16 none)]),(1000000,.arr 2 1 j5 none false)],3⟩))∧p71_2 False fu K0 x16 j5) (fun k4 h L hL_2=>?_) (fun k4 h L hL_2=>?_) ?_
 conv=>cbv
 have hz:=z0u h
 have k5:=hz.1
 replace h:=hz.2
 clear hz
 refine z0b hO [.ref 1,.shut] (d_p83 fu O.len hN h) ?_
 intro e Q a b
 conv=>cbv
 refine⟨(by subst hO;exact Nat.le_refl _),?_⟩
 refine z0r hO (by subst hO;exact k5) ?_
 conv=>cbv
 refine⟨by subst a hO;rfl,?_⟩
 intro r bs d
 rw [b] at d
 clear a b h
 obtain⟨y18,_,⟨rfl,rfl⟩,h⟩:=d
 conv=>cbv
 refine z0b hO [.ref 1,.shut] (d_p64 fu O.len hN h) ?_
 intro e Q a b
 conv=>cbv
 refine⟨(by subst hO;exact Nat.le_refl _),?_⟩
 refine⟨by subst a hO;rfl,?_⟩
 intro r bs d
 rw [b] at d
 clear a b h
 obtain⟨y19,_,⟨rfl,rfl⟩,h⟩:=d
 conv=>cbv
 exact hL_2 _ _ ⟨y19,⟨(by (conv=>lhs;cbv)<;>(subst hO;rfl)),(by (conv=>lhs;cbv)<;>(subst hO;rfl))⟩,h⟩
 conv=>cbv
 have hz:=z0u h
 have k6:=hz.1
 replace h:=hz.2
 clear hz
 refine z0b hO [.ref 1,.shut] (d_p83 fu O.len hN h) ?_
 intro e Q a b
 conv=>cbv
 refine⟨(by subst hO;exact Nat.le_refl _),?_⟩
 refine z0r hO (by subst hO;exact k6) ?_
 conv=>cbv
 refine⟨by subst a hO;rfl,?_⟩
 intro r bs d
 rw [b] at d
 clear a b h
 obtain⟨y20,_,⟨rfl,rfl⟩,h⟩:=d
 conv=>cbv
 exact hL_2 _ _ ⟨y20,⟨(by (conv=>lhs;cbv)<;>(subst hO;rfl)),(by (conv=>lhs;cbv)<;>(subst hO;rfl))⟩,h⟩
 rintro tm m ⟨j5,hs,h⟩
 unfold p71_2 at h
 obtain⟨rfl,rfl⟩:=hs
 conv=>cbv
 have hz:=z0u h
 have k3:=hz.1
 replace h:=hz.2
 clear hz
 refine z0b hO [.ref 1,.shut] (d_p83 fu O.len hN h) ?_
 intro e Q a b
 conv=>cbv
 refine⟨(by subst hO;exact Nat.le_refl _),?_⟩
 refine z0r hO (by subst hO;exact k3) ?_
 conv=>cbv
 refine⟨by subst a hO;rfl,?_⟩
 intro r bs d
 rw [b] at d
 clear a b h
 obtain⟨y6,_,⟨rfl,rfl⟩,h⟩:=d
 conv=>cbv
 refine z0v hO tiA [0,49,50,51] [0,1000000] [] (fun (n:Nat) tm m=>∃ (z7:EL) (z8:Int) (z9:Int),((tm=frame 0 65 [(0,.p 0 1 0),(49,.c (.sl 6 x16 none)),(50,.c (.v (.int .i64 z8))),(51,.c (.v (.int .i64 z9)))]∧m=⟨[(0,.blk 1 [.t 1000000 2 (O.len z7)]),(1000000,.arr 2 1 z7 none false)],3⟩))∧p71_1L False fu K0 x16 n z7 z8 z9) (fun n=>n) fu ⟨y6,((x16.length:Nat):Int),0,⟨(by (conv=>lhs;cbv)<;>(subst hO;rfl)),(by (conv=>lhs;cbv)<;>(subst hO;rfl))⟩,h⟩ ?_
 rintro n1 tm m L ⟨z7,z8,z9,hs,h⟩ hLn1
 (cases n1 with
 | zero=>rw [p71_1L] at h;exact h.elim
 | succ n1 =>
 rw [p71_1L] at h
 unfold p71_1 at h
 obtain⟨rfl,rfl⟩:=hs
 conv=>cbv
 refine br_h hO h (by subst hO;rfl) (fun k1 h=>?_) (fun k1 h=>?_)
 conv=>cbv
 refine z0c hO ?_
 conv=>cbv
 refine and_h h (fun g=>(by subst hO;exact g)) (fun h=>?_)
 refine and_h h (fun g=>(by subst hO;exact g)) (fun h=>?_)
 obtain⟨c10,c11,c12,c13,c14,c15,hr,h⟩:=z0t h
 refine z0p hO _ (by subst hO;exact hr) ?_
 clear hr
 conv=>cbv
 have hz:=z0u h
 have k2:=hz.1
 replace h:=hz.2
 clear hz
 refine z0b hO [.ref 1,.shut] (d_p87 fu O.len hN h) ?_
 intro e Q a b
 conv=>cbv
 refine⟨(by subst hO;exact Nat.le_refl _),?_⟩
 refine z0r hO (by subst hO;exact k2) ?_
 conv=>cbv
 refine⟨by subst a hO;rfl,?_⟩
 intro r bs d
 rw [b] at d
 clear a b h
 obtain⟨y16,_,⟨rfl,rfl⟩,h⟩:=d
 conv=>cbv
 refine z0b hO [.ref 1,.shut] (d_p64 fu O.len hN h) ?_
 intro e Q a b
 conv=>cbv
 refine⟨(by subst hO;exact Nat.le_refl _),?_⟩
 refine⟨by subst a hO;rfl,?_⟩
 intro r bs d
 rw [b] at d
 clear a b h
 obtain⟨y17,_,⟨rfl,rfl⟩,h⟩:=d
 conv=>cbv
 exact hLn1 n1 _ _ (Nat.lt_succ_self n1) ⟨y17,z8,z0d .add .i64 z9 1,⟨(by (conv=>lhs;cbv)<;>(subst hO;rfl)),(by (conv=>lhs;cbv)<;>(subst hO;rfl))⟩,h⟩
 conv=>cbv
 refine⟨(by subst hO;exact Nat.le_refl _),?_⟩
 rw [b]
 exact⟨z7,_,⟨(by subst hO;rfl),(by subst hO;rfl)⟩,h⟩)
theorem d_p27 (fu:Nat){K0:EL→Prop}(L:EL→Nat)(hN:L=List.length){x0:EL}{x1 x2 x3:Int}{x4 x5:ByteArray}{x6 x7:Int}{x8:ByteArray}{x9 x10:EL}{x11 x12:Int}{x13:ByteArray}{x14 x15 x16:EL}(h:p27 False fu K0 x0 x1 x2 x3 x4 x5 x6 x7 x8 x9 x10 x11 x12 x13 x14 x15 x16):Den Try.prog G0 27 [.c (.sl 1 x0 none),.agg [.c (.v (.int .i64 x1)),.c (.v (.int .i64 x2)),.c (.v (.int .i64 x3)),.c (.v (.string x4)),.c (.v (.string x5)),.c (.v (.int .i64 x6)),.c (.v (.int .i64 x7)),.c (.v (.string x8)),.c (.sl 3 x9 none),.c (.sl 5 x10 none),.c (.v (.int .i64 x11)),.c (.v (.int .i64 x12)),.c (.v (.string x13)),.c (.sl 3 x14 none),.c (.sl 5 x15 none),.c (.sl 6 x16 none)]] (fun r bs=>(∃ (y0:EL) (o0 o1:OV),(r=.arr 1 y0 none false (L y0)∧bs=[o0,o1])∧K0 y0)):=by
 obtain⟨O,hO⟩:∃ O,O=std 0 T G0 (Den Try.prog G0):=⟨_,rfl⟩
 have hLO:L=O.len:=by rw [hN,hO];rfl
 subst hLO
 refine den_h hO tiA mixed tabOk (fn:=Try.f27) (sh:=false) (by kernel_rfl) rfl rfl rfl rfl ?_
 intro Q b
 unfold p27 at h
 conv=>cbv
 refine z0b hO [.shut] (d_p63 fu O.len hN h) ?_
 intro e Q a b
 conv=>cbv
 refine⟨by subst a hO;rfl,?_⟩
 intro r bs d
 rw [b] at d
 clear a b h
 obtain⟨y1,_,⟨rfl,rfl⟩,h⟩:=d
 conv=>cbv
 refine z0b hO [.ref 1,.shut] (d_p71 fu O.len hN h) ?_
 intro e Q a b
 conv=>cbv
 refine⟨(by subst hO;exact Nat.le_refl _),?_⟩
 refine⟨by subst a hO;rfl,?_⟩
 intro r bs d
 rw [b] at d
 clear a b h
 obtain⟨y2,_,⟨rfl,rfl⟩,h⟩:=d
 conv=>cbv
 refine⟨(by subst hO;exact Nat.le_refl _),?_⟩
 rw [b]
 exact⟨y2,_,_,⟨(by subst hO;rfl),(by subst hO;rfl)⟩,h⟩
def ctRow (c:ByteArray × Tm):List CV:=[.v (.string c.1),.v (.int .i64 c.2.k),.v (.int .i64 c.2.n),.v (.string c.2.nm),.sl 3 (Lv.rows c.2.ls) none,.sl 5 (Tm.rows c.2.args) none]
structure Dc where
 k:Int
 pa:Int
 ct:Int
 nm:ByteArray
 fam:ByteArray
 ty:Tm
 val:Tm
 cs:List (ByteArray × Tm)
def rdCt (p:Nat) (bs:List UInt8):Except Int ((ByteArray × Tm) × List UInt8 × Nat):=match rdTxt 24 bs with
 | .error e=>.error e
 | .ok (s,bs)=>match z1c bs with
  | .error e=>.error e
  | .ok (t,bs)=>.ok ((⟨s.toArray⟩,t),bs,p)
def rdVal (k:Nat) (bs:List UInt8):Except Int (Tm × List UInt8):=match rdV bs with
 | .error e=>.error e
 | .ok (v,bs)=>if 1 < v∨((v=1) ↔ ¬ (k=2)) then .error 5 else if v=1 then z1c bs else .ok (tm0,bs)
def rdCts (bs:List UInt8):Except Int (List (ByteArray × Tm) × List UInt8):=match rdNum bs with
 | .error e=>.error e
 | .ok (n,bs)=>if 5 < n then .error 3 else match many rdCt n 0 bs with
  | .error e=>.error e
  | .ok (l,bs,_)=>.ok (l,bs)
def w1h (k:Nat) (bs:List UInt8):Except Int (Tm × List (ByteArray × Tm) × List UInt8):=match rdVal k bs with
 | .error e=>.error e
 | .ok (val,bs)=>match rdCts bs with
  | .error e=>.error e
  | .ok (cs,bs)=>.ok (val,cs,bs)
def rdD6 (k:Nat) (bs:List UInt8):Except Int (Tm × Tm × List (ByteArray × Tm) × List UInt8):=match z1c bs with
 | .error e=>.error e
 | .ok (ty,bs)=>match w1h k bs with
  | .error e=>.error e
  | .ok (val,cs,bs)=>.ok (ty,val,cs,bs)
def rdD5 (k:Nat) (bs:List UInt8):Except Int (ByteArray × Tm × Tm × List (ByteArray × Tm) × List UInt8):=match rdTxt 24 bs with
 | .error e=>.error e
 | .ok (s,bs)=>match rdD6 k bs with
  | .error e=>.error e
  | .ok x=>.ok (⟨s.toArray⟩,x)
def rdD4 (k:Nat) (bs:List UInt8):Except Int (ByteArray × ByteArray × Tm × Tm × List (ByteArray × Tm) × List UInt8):=match rdTxt 24 bs with
 | .error e=>.error e
 | .ok (s,bs)=>match rdD5 k bs with
  | .error e=>.error e
  | .ok x=>.ok (⟨s.toArray⟩,x)
def rdD3 (k:Nat) (bs:List UInt8):Except Int (Nat × ByteArray × ByteArray × Tm × Tm × List (ByteArray × Tm) × List UInt8):=match rdNum bs with
 | .error e=>.error e
 | .ok (n,bs)=>match rdD4 k bs with
  | .error e=>.error e
  | .ok x=>.ok (n,x)
def rdD2 (k:Nat) (bs:List UInt8):Except Int (Nat × Nat × ByteArray × ByteArray × Tm × Tm × List (ByteArray × Tm) × List UInt8):=match rdNum bs with
 | .error e=>.error e
 | .ok (n,bs)=>match rdD3 k bs with
  | .error e=>.error e
  | .ok x=>.ok (n,x)
def z5b (bs:List UInt8):Except Int (Dc × List UInt8):=match z2c 1 5 bs with
 | .error e=>.error e
 | .ok (k,bs)=>match rdD2 k bs with
  | .error e=>.error e
  | .ok (pa,ct,nm,fam,ty,val,cs,bs)=>.ok (⟨(k:Nat),(pa:Nat),(ct:Nat),nm,fam,ty,val,cs⟩,bs)
abbrev DK (ρ:Type):=Int→Int→Int→ByteArray→ByteArray→Int→Int→ByteArray→EL→EL→Int→Int→ByteArray→EL→EL→EL→EL→Int→ρ
def DErr {ρ:Type} (p:DK ρ→ρ) (e:Int):Prop:=e≠0∧∃ a b c d f g h i j k l m n o q r s,∀ K:DK ρ,p K=K a b c d f g h i j k l m n o q r s e
def DOut {ρ:Type} (p:DK ρ→ρ):Except Int (Dc × List UInt8)→Prop
 | .ok (d,bs)=>∀ K:DK ρ,p K=K d.k d.pa d.ct d.nm d.fam d.ty.k d.ty.n d.ty.nm (Lv.rows d.ty.ls) (Tm.rows d.ty.args) d.val.k d.val.n d.val.nm (Lv.rows d.val.ls) (Tm.rows d.val.args) (d.cs.map ctRow) (encB bs) 0
 | .error e=>DErr p e
theorem DErr.of {ρ:Type} {p:DK ρ→ρ} {e:Int} (he:e≠0) {a b c:Int} {d f:ByteArray} {g h:Int} {i:ByteArray} {j k:EL} {l m:Int} {n:ByteArray} {o q r s:EL} (hp:∀ K:DK ρ,p K=K a b c d f g h i j k l m n o q r s e):DErr p e:=⟨he,a,b,c,d,f,g,h,i,j,k,l,m,n,o,q,r,s,hp⟩
theorem DErr.eq {ρ:Type} {p p':DK ρ→ρ} {e:Int} (h:DErr p' e) (hp:∀ K,p K=p' K):DErr p e:=by
 obtain⟨he,a,b,c,d,f,g,h,i,j,k,l,m,n,o,q,r,s,h1⟩:=h
 exact DErr.of he fun K=>(hp K).trans (h1 K)
section
variable {ρ:Type} (fail:ρ) (fu:Nat) (hfu:200≤fu)
section
variable (y1 y4 y7:Int) (s13 s17:ByteArray) (j20 j21:Int) (j22:ByteArray) (j23 j24:EL)
section
variable (j34 j35:Int) (j36:ByteArray) (j37 j38:EL)
include hfu
theorem ctLoop (N:Nat) (hN:N≤1099511627776):∀ (r n:Nat) (bs:List UInt8) (p:Nat) (z:EL) (i:Nat),bs.length≤N→z.length≤i→i + r≤1000→r < n →
  match many rdCt r p bs with
  | .ok (l,bs',_)=>∀ K:DK ρ,p76_2L fail fu K y1 y4 y7 s13 s17 j20 j21 j22 j23 j24 j34 j35 j36 j37 j38 ((i + r:Nat):Int) n (encB bs) 0 z (i:Nat)=K y1 y4 y7 s13 s17 j20 j21 j22 j23 j24 j34 j35 j36 j37 j38 (z++l.map ctRow) (encB bs') 0
  | .error e=>DErr (fun K=>p76_2L fail fu K y1 y4 y7 s13 s17 j20 j21 j22 j23 j24 j34 j35 j36 j37 j38 ((i + r:Nat):Int) n (encB bs) 0 z (i:Nat)) e
 | 0,n + 1,bs,p,z,i,hb,hz,hi,hn=>by
  simp only [many]
  intro K
  rw [p76_2L,p76_2,lssF (by omega),cond_false]
  simp
 | r + 1,n + 1,bs,p,z,i,hb,hz,hi,hn=>by
  have htxt:=w2b (ρ:=ρ) fail fu (by omega) bs (by omega) 24 (by omega)
  simp only [many]
  have step:∀ K:DK ρ,p76_2L fail fu K y1 y4 y7 s13 s17 j20 j21 j22 j23 j24 j34 j35 j36 j37 j38 ((i + (r + 1):Nat):Int) (n + 1) (encB bs) 0 z (i:Nat)=p95 fail fu (fun y48 y49 y50=>tobP fail y48 (fun s51=>bif (z0a .eql y50 0) then (p65 fail fu (fun y59 y60 y61 y62 y63 y64 y65=>p76_2L fail fu K y1 y4 y7 s13 s17 j20 j21 j22 j23 j24 j34 j35 j36 j37 j38 ((i + 1 + r:Nat):Int) n y64 y65 (z++[[.v (.string s51),.v (.int .i64 y59),.v (.int .i64 y60),.v (.string y61),.sl 3 y62 none,.sl 5 y63 none]]) ((i + 1:Nat):Int)) y49 y50) else (p76_2L fail fu K y1 y4 y7 s13 s17 j20 j21 j22 j23 j24 j34 j35 j36 j37 j38 ((i + 1 + r:Nat):Int) n y49 y50 (z++[[.v (.string s51),.v (.int .i64 0),.v (.int .i64 0),.v (.string ⟨#[]⟩),.sl 3 nilE none,.sl 5 nilE none]]) ((i + 1:Nat):Int)))) (encB bs) 0 ((24:Nat):Int):=fun K=>by
   have h1:∀ (a:ByteArray) (b c:Int) (d:ByteArray) (l g B:EL) (e:Int),p76_1 fail fu K (p76_2L fail fu K y1 y4 y7 s13 s17 j20 j21 j22 j23 j24 j34 j35 j36 j37 j38 ((i + 1 + r:Nat):Int) n) z ((i:Nat):Int) a B e b c d l g=p76_2L fail fu K y1 y4 y7 s13 s17 j20 j21 j22 j23 j24 j34 j35 j36 j37 j38 ((i + 1 + r:Nat):Int) n B e (z++[[.v (.string a),.v (.int .i64 b),.v (.int .i64 c),.v (.string d),.sl 3 l none,.sl 5 g none]]) ((i + 1:Nat):Int):=fun a b c d l g B e=>by
    rw [p76_1,gd_y (by simp),gd_y (by simp;omega),addZ (by omega) (by omega),show ((i:Nat):Int) + 1=((i + 1:Nat):Int) by omega]
    rfl
   rw [p76_2L,p76_2,lssT (by omega),cond_true,neqF rfl,cond_false,show i + (r + 1)=i + 1 + r by omega]
   simp only [h1]
   rfl
  have dead:∀ (B:EL) (e:Int) (w:EL),e≠0→∀ K:DK ρ,p76_2L fail fu K y1 y4 y7 s13 s17 j20 j21 j22 j23 j24 j34 j35 j36 j37 j38 ((i + 1 + r:Nat):Int) n B e w ((i + 1:Nat):Int)=K y1 y4 y7 s13 s17 j20 j21 j22 j23 j24 j34 j35 j36 j37 j38 w B e:=fun B e w he K=>by
   obtain⟨n,rfl⟩:∃ n',n=n' + 1:=⟨n - 1,by omega⟩
   rw [p76_2L,p76_2]
   by_cases h0:r=0
   ·rw [lssF (by omega),cond_false]
   ·rw [lssT (by omega),cond_true,neqT he,cond_true]
  unfold rdCt
  cases ht:rdTxt 24 bs with
  | error e =>
   rw [ht] at htxt
   obtain⟨he,B,hB⟩:=htxt
   dsimp only at hB
   refine DErr.of (a:=y1) (b:=y4) (c:=y7) (d:=s13) (f:=s17) (g:=j20) (h:=j21) (i:=j22) (j:=j23) (k:=j24) (l:=j34) (m:=j35) (n:=j36) (o:=j37) (q:=j38) (r:=z++[[.v (.string ⟨#[]⟩),.v (.int .i64 0),.v (.int .i64 0),.v (.string ⟨#[]⟩),.sl 3 nilE none,.sl 5 nilE none]]) (s:=B) he fun K=>?_
   exact (step K).trans ((hB _).trans (by rw [show (nilE:EL)=encB [] from rfl,z2o,eqlF he,cond_false];exact dead B e _ he K))
  | ok x =>
   obtain⟨sx,bs1⟩:=x
   have ht1:=z2q ht
   rw [ht] at htxt
   simp only [SOut] at htxt
   have htm:=w3c (ρ:=ρ) fail fu (by omega) bs1 (by omega)
   have step2:∀ K:DK ρ,p76_2L fail fu K y1 y4 y7 s13 s17 j20 j21 j22 j23 j24 j34 j35 j36 j37 j38 ((i + (r + 1):Nat):Int) (n + 1) (encB bs) 0 z (i:Nat)=p65 fail fu (fun y59 y60 y61 y62 y63 y64 y65=>p76_2L fail fu K y1 y4 y7 s13 s17 j20 j21 j22 j23 j24 j34 j35 j36 j37 j38 ((i + 1 + r:Nat):Int) n y64 y65 (z++[[.v (.string ⟨sx.toArray⟩),.v (.int .i64 y59),.v (.int .i64 y60),.v (.string y61),.sl 3 y62 none,.sl 5 y63 none]]) ((i + 1:Nat):Int)) (encB bs1) 0:=fun K=>by
    rw [step,htxt,z2o,eqlT rfl,cond_true]
   try dsimp only
   cases htt:z1c bs1 with
   | error e =>
    rw [htt] at htm
    obtain⟨he,a,b,c,l,g,B,hB⟩:=htm
    dsimp only at hB
    refine DErr.of (a:=y1) (b:=y4) (c:=y7) (d:=s13) (f:=s17) (g:=j20) (h:=j21) (i:=j22) (j:=j23) (k:=j24) (l:=j34) (m:=j35) (n:=j36) (o:=j37) (q:=j38) (r:=z++[[.v (.string ⟨sx.toArray⟩),.v (.int .i64 a),.v (.int .i64 b),.v (.string c),.sl 3 l none,.sl 5 g none]]) (s:=B) he fun K=>?_
    exact (step2 K).trans ((hB _).trans (dead B e _ he K))
   | ok x =>
    obtain⟨t,bs2⟩:=x
    have hsub:=z7u htt
    rw [htt] at htm
    simp only [TmO2] at htm
    have ih:=ctLoop N hN r n bs2 p (z++[ctRow (⟨sx.toArray⟩,t)]) (i + 1) (by omega) (by simp;omega) (by omega) (by omega)
    have hrow:∀ K:DK ρ,p76_2L fail fu K y1 y4 y7 s13 s17 j20 j21 j22 j23 j24 j34 j35 j36 j37 j38 ((i + (r + 1):Nat):Int) (n + 1) (encB bs) 0 z (i:Nat)=p76_2L fail fu K y1 y4 y7 s13 s17 j20 j21 j22 j23 j24 j34 j35 j36 j37 j38 ((i + 1 + r:Nat):Int) n (encB bs2) 0 (z++[ctRow (⟨sx.toArray⟩,t)]) ((i + 1:Nat):Int):=fun K=>by
     rw [step2,htm];rfl
    try dsimp only
    have hfold:many (fun p bs=>match rdTxt 24 bs with | .error e=>Except.error e | .ok (s,bs)=>match z1c bs with | .error e=>.error e | .ok (t,bs)=>.ok (((⟨s.toArray⟩:ByteArray),t),bs,p)) r p bs2=many rdCt r p bs2:=rfl
    rw [hfold]
    cases hm:many rdCt r p bs2 with
    | error e =>
     rw [hm] at ih
     exact DErr.eq ih hrow
    | ok x =>
     obtain⟨l,bs3,p2⟩:=x
     rw [hm] at ih
     intro K
     rw [hrow,ih,List.append_assoc];rfl
theorem dead4 (B:EL) (e:Int) (he:e≠0) (K:DK ρ):p76_4 fail fu K y1 y4 y7 s13 s17 j20 j21 j22 j23 j24 B e j34 j35 j36 j37 j38=K y1 y4 y7 s13 s17 j20 j21 j22 j23 j24 j34 j35 j36 j37 j38 nilE B e:=by
 rw [p76_4,numE _ _ _ _ _ he,gtrF (by omega),cond_false,p76_3]
 obtain⟨m,hm⟩:∃ m,fu=m + 1:=⟨fu - 1,by omega⟩
 have:∀ m',m'=m + 1→p76_2L fail fu K y1 y4 y7 s13 s17 j20 j21 j22 j23 j24 j34 j35 j36 j37 j38 0 m' B e nilE 0=K y1 y4 y7 s13 s17 j20 j21 j22 j23 j24 j34 j35 j36 j37 j38 nilE B e:=fun m' h=>by
  subst h;rw [p76_2L,p76_2,lssF (by omega),cond_false]
 exact this fu hm
theorem cts_rd (bs:List UInt8) (hb:bs.length≤1099511627776):match rdCts bs with
  | .ok (l,bs')=>∀ K:DK ρ,p76_4 fail fu K y1 y4 y7 s13 s17 j20 j21 j22 j23 j24 (encB bs) 0 j34 j35 j36 j37 j38=K y1 y4 y7 s13 s17 j20 j21 j22 j23 j24 j34 j35 j36 j37 j38 (l.map ctRow) (encB bs') 0
  | .error e=>DErr (fun K=>p76_4 fail fu K y1 y4 y7 s13 s17 j20 j21 j22 j23 j24 (encB bs) 0 j34 j35 j36 j37 j38) e:=by
 have hnum:=w1k (ρ:=ρ) fail fu (by omega) bs hb
 unfold rdCts
 cases hn:rdNum bs with
 | error e =>
  rw [hn] at hnum
  obtain⟨he,B,hB⟩:=hnum
  dsimp only at hB
  refine DErr.of (a:=y1) (b:=y4) (c:=y7) (d:=s13) (f:=s17) (g:=j20) (h:=j21) (i:=j22) (j:=j23) (k:=j24) (l:=j34) (m:=j35) (n:=j36) (o:=j37) (q:=j38) (r:=nilE) (s:=B) he fun K=>?_
  try dsimp only
  rw [p76_4,hB,gtrF (by omega),cond_false,p76_3]
  obtain⟨m,hm⟩:∃ m,fu=m + 1:=⟨fu - 1,by omega⟩
  have:∀ m',m'=m + 1→p76_2L fail fu K y1 y4 y7 s13 s17 j20 j21 j22 j23 j24 j34 j35 j36 j37 j38 0 m' B e nilE 0=K y1 y4 y7 s13 s17 j20 j21 j22 j23 j24 j34 j35 j36 j37 j38 nilE B e:=fun m' h=>by
   subst h;rw [p76_2L,p76_2,lssF (by omega),cond_false]
  exact this fu hm
 | ok x =>
  obtain⟨n,bs1⟩:=x
  have hn1:=z1i hn
  rw [hn] at hnum
  simp only [KOut] at hnum
  try dsimp only
  by_cases h5:5 < n
  ·rw [if_pos h5]
   refine DErr.of (a:=y1) (b:=y4) (c:=y7) (d:=s13) (f:=s17) (g:=j20) (h:=j21) (i:=j22) (j:=j23) (k:=j24) (l:=j34) (m:=j35) (n:=j36) (o:=j37) (q:=j38) (r:=nilE) (s:=encB bs1) (show (3:Int)≠0 by decide) fun K=>?_
   try dsimp only
   rw [p76_4,hnum,gtrT (by omega),cond_true,z3o,p76_3]
   obtain⟨m,hm⟩:∃ m,fu=m + 1:=⟨fu - 1,by omega⟩
   have:∀ m',m'=m + 1→p76_2L fail fu K y1 y4 y7 s13 s17 j20 j21 j22 j23 j24 j34 j35 j36 j37 j38 ((n:Nat):Int) m' (encB bs1) 3 nilE 0=K y1 y4 y7 s13 s17 j20 j21 j22 j23 j24 j34 j35 j36 j37 j38 nilE (encB bs1) 3:=fun m' h=>by
    subst h;rw [p76_2L,p76_2,lssT (by omega),cond_true,neqT (by omega),cond_true]
   exact this fu hm
  ·rw [if_neg h5]
   have hstep:∀ K:DK ρ,p76_4 fail fu K y1 y4 y7 s13 s17 j20 j21 j22 j23 j24 (encB bs) 0 j34 j35 j36 j37 j38=p76_2L fail fu K y1 y4 y7 s13 s17 j20 j21 j22 j23 j24 j34 j35 j36 j37 j38 ((0 + n:Nat):Int) fu (encB bs1) 0 nilE ((0:Nat):Int):=fun K=>by
    rw [p76_4,hnum,gtrF (by omega),cond_false,p76_3,Nat.zero_add];rfl
   have:=ctLoop (ρ:=ρ) fail fu hfu y1 y4 y7 s13 s17 j20 j21 j22 j23 j24 j34 j35 j36 j37 j38 1099511627776 (by omega) n fu bs1 0 nilE 0 (by omega) (by simp) (by omega) (by omega)
   cases hm:many rdCt n 0 bs1 with
   | error e =>
    rw [hm] at this
    exact DErr.eq this hstep
   | ok x =>
    obtain⟨l,bs2,p2⟩:=x
    rw [hm] at this
    intro K
    rw [hstep,this K];rfl
end
include hfu
theorem dead8 (B:EL) (e:Int) (he:e≠0) (K:DK ρ):p76_8 fail fu K y1 y4 y7 s13 s17 B e j20 j21 j22 j23 j24=K y1 y4 y7 s13 s17 j20 j21 j22 j23 j24 0 0 ⟨#[]⟩ nilE nilE nilE B e:=by
 rw [p76_8,rawE _ _ _ _ _ he,gtrF (by omega),cond_false,p76_7]
 cases (!((z0a .eql 0 1) == (z0a .eql y1 2))) with
 | true=>rw [cond_true,k2a _ _ _ _ _ _ he,p76_6,eqlF he,cond_false,p76_5,cond_false,dead4 fail fu hfu _ _ _ _ _ _ _ _ _ _ _ _ _ _ _ B e he]
 | false=>rw [cond_false,p76_6,eqlF he,cond_false,p76_5,cond_false,dead4 fail fu hfu _ _ _ _ _ _ _ _ _ _ _ _ _ _ _ B e he]
theorem tail_rd (k:Nat) (hk:k≤5) (hy:y1=(k:Nat)) (bs:List UInt8) (hb:bs.length≤1099511627776):match w1h k bs with
  | .ok (val,l,bs')=>∀ K:DK ρ,p76_8 fail fu K y1 y4 y7 s13 s17 (encB bs) 0 j20 j21 j22 j23 j24=K y1 y4 y7 s13 s17 j20 j21 j22 j23 j24 val.k val.n val.nm (Lv.rows val.ls) (Tm.rows val.args) (l.map ctRow) (encB bs') 0
  | .error e=>DErr (fun K=>p76_8 fail fu K y1 y4 y7 s13 s17 (encB bs) 0 j20 j21 j22 j23 j24) e:=by
 have hraw:=fun K=>k0t (ρ:=ρ) fail fu (by omega) K bs hb
 unfold w1h rdVal
 cases hr:rdV bs with
 | error e =>
  have he:=w6c hr
  rw [hr] at hraw
  have he0:e≠0:=by omega
  refine DErr.of (a:=y1) (b:=y4) (c:=y7) (d:=s13) (f:=s17) (g:=j20) (h:=j21) (i:=j22) (j:=j23) (k:=j24) (l:=0) (m:=0) (n:=⟨#[]⟩) (o:=nilE) (q:=nilE) (r:=nilE) (s:=encB bs) he0 fun K=>?_
  try dsimp only
  rw [p76_8,hraw]
  simp only [rdK]
  rw [gtrF (by omega),cond_false,p76_7]
  cases (!((z0a .eql 0 1) == (z0a .eql y1 2))) with
  | true=>rw [cond_true,k2a _ _ _ _ _ _ he0,p76_6,eqlF he0,cond_false,p76_5,cond_false,dead4 fail fu hfu _ _ _ _ _ _ _ _ _ _ _ _ _ _ _ (encB bs) e he0]
  | false=>rw [cond_false,p76_6,eqlF he0,cond_false,p76_5,cond_false,dead4 fail fu hfu _ _ _ _ _ _ _ _ _ _ _ _ _ _ _ (encB bs) e he0]
 | ok x =>
  obtain⟨v,bs1⟩:=x
  have hv:=z9l hr
  rw [hr] at hraw
  try dsimp only
  have hc:∀ K:DK ρ,p76_8 fail fu K y1 y4 y7 s13 s17 (encB bs) 0 j20 j21 j22 j23 j24=p76_7 fail fu K y1 y4 y7 s13 s17 j20 j21 j22 j23 j24 ((v:Nat):Int) (encB bs1) 0 (decide (1 < v∨((v=1) ↔ ¬ (k=2)))):=fun K=>by
   rw [p76_8,hraw]
   simp only [rdK]
   by_cases h1:1 < v
   ·rw [gtrT (by omega),cond_true,decide_eq_true (.inl h1)]
   ·rw [gtrF (by omega),cond_false]
    have e1:z0a .eql ((v:Nat):Int) 1=decide (v=1):=by
     by_cases q:v=1
     ·rw [eqlT (by omega),decide_eq_true q]
     ·rw [eqlF (by omega),decide_eq_false q]
    have e2:z0a .eql y1 2=decide (k=2):=by
     by_cases q:k=2
     ·rw [eqlT (by omega),decide_eq_true q]
     ·rw [eqlF (by omega),decide_eq_false q]
    rw [e1,e2]
    congr 1
    by_cases hv1:v=1<;>by_cases hk2:k=2<;>simp [hv1,hk2,h1]
  by_cases hbad:1 < v∨((v=1) ↔ ¬ (k=2))
  ·rw [if_pos hbad]
   have he0:(5:Int)≠0:=by decide
   refine DErr.of (a:=y1) (b:=y4) (c:=y7) (d:=s13) (f:=s17) (g:=j20) (h:=j21) (i:=j22) (j:=j23) (k:=j24) (l:=0) (m:=0) (n:=⟨#[]⟩) (o:=nilE) (q:=nilE) (r:=nilE) (s:=encB bs1) he0 fun K=>?_
   try dsimp only
   rw [hc,decide_eq_true hbad,p76_7,cond_true,z3o,p76_6,eqlF he0,cond_false,p76_5,cond_false,dead4 fail fu hfu _ _ _ _ _ _ _ _ _ _ _ _ _ _ _ (encB bs1) 5 he0]
  ·rw [if_neg hbad]
   have hc2:∀ K:DK ρ,p76_8 fail fu K y1 y4 y7 s13 s17 (encB bs) 0 j20 j21 j22 j23 j24=p76_5 fail fu K y1 y4 y7 s13 s17 j20 j21 j22 j23 j24 (encB bs1) 0 (z0a .eql ((v:Nat):Int) 1):=fun K=>by
    rw [hc,decide_eq_false hbad,p76_7,cond_false,p76_6,eqlT rfl,cond_true]
   by_cases hv1:v=1
   ·rw [if_pos hv1]
    have htm:=w3c (ρ:=ρ) fail fu (by omega) bs1 (by omega)
    have hc3:∀ K:DK ρ,p76_8 fail fu K y1 y4 y7 s13 s17 (encB bs) 0 j20 j21 j22 j23 j24=p65 fail fu (fun y68 y69 y70 y71 y72 y73 y74=>p76_4 fail fu K y1 y4 y7 s13 s17 j20 j21 j22 j23 j24 y73 y74 y68 y69 y70 y71 y72) (encB bs1) 0:=fun K=>by
     rw [hc2,eqlT (by omega),p76_5,cond_true]
    cases htt:z1c bs1 with
    | error e =>
     rw [htt] at htm
     obtain⟨he,a,b,c,l,g,B,hB⟩:=htm
     dsimp only at hB
     refine DErr.of (a:=y1) (b:=y4) (c:=y7) (d:=s13) (f:=s17) (g:=j20) (h:=j21) (i:=j22) (j:=j23) (k:=j24) (l:=a) (m:=b) (n:=c) (o:=l) (q:=g) (r:=nilE) (s:=B) he fun K=>?_
     exact (hc3 K).trans ((hB _).trans (dead4 fail fu hfu _ _ _ _ _ _ _ _ _ _ _ _ _ _ _ B e he K))
    | ok x =>
     obtain⟨t,bs2⟩:=x
     have hsub:=z7u htt
     rw [htt] at htm
     simp only [TmO2] at htm
     have hcts:=cts_rd (ρ:=ρ) fail fu hfu y1 y4 y7 s13 s17 j20 j21 j22 j23 j24 t.k t.n t.nm (Lv.rows t.ls) (Tm.rows t.args) bs2 (by omega)
     have hc4:∀ K:DK ρ,p76_8 fail fu K y1 y4 y7 s13 s17 (encB bs) 0 j20 j21 j22 j23 j24=p76_4 fail fu K y1 y4 y7 s13 s17 j20 j21 j22 j23 j24 (encB bs2) 0 t.k t.n t.nm (Lv.rows t.ls) (Tm.rows t.args):=fun K=>by rw [hc3,htm]
     try dsimp only
     cases hcc:rdCts bs2 with
     | error e=>rw [hcc] at hcts;exact DErr.eq hcts hc4
     | ok x=>obtain⟨l,bs3⟩:=x;rw [hcc] at hcts;intro K;rw [hc4,hcts K]
   ·rw [if_neg hv1]
    have hcts:=cts_rd (ρ:=ρ) fail fu hfu y1 y4 y7 s13 s17 j20 j21 j22 j23 j24 0 0 ⟨#[]⟩ nilE nilE bs1 (by omega)
    have hc3:∀ K:DK ρ,p76_8 fail fu K y1 y4 y7 s13 s17 (encB bs) 0 j20 j21 j22 j23 j24=p76_4 fail fu K y1 y4 y7 s13 s17 j20 j21 j22 j23 j24 (encB bs1) 0 0 0 ⟨#[]⟩ nilE nilE:=fun K=>by
     rw [hc2,eqlF (by omega),p76_5,cond_false]
    try dsimp only
    cases hcc:rdCts bs1 with
    | error e=>rw [hcc] at hcts;exact DErr.eq hcts hc3
    | ok x=>obtain⟨l,bs3⟩:=x;rw [hcc] at hcts;intro K;rw [hc3,hcts K];rfl
end
end
section
variable {ρ:Type} (fail:ρ) (fu:Nat)
def q6 (K0:DK ρ) (y1 y4 y7:Int) (s13 s17:ByteArray) (B:EL) (e:Int):ρ:=bif (z0a .eql e 0) then (p65 fail fu (fun y77 y78 y79 y80 y81 y82 y83=>p76_8 fail fu K0 y1 y4 y7 s13 s17 y82 y83 y77 y78 y79 y80 y81) B e) else (p76_8 fail fu K0 y1 y4 y7 s13 s17 B e 0 0 ⟨#[]⟩ nilE nilE)
def q5 (K0:DK ρ) (y1 y4 y7:Int) (s13:ByteArray) (B:EL) (e:Int):ρ:=p95 fail fu (fun y14 y15 y16=>tobP fail y14 (fun s17=>q6 fail fu K0 y1 y4 y7 s13 s17 y15 y16)) B e 24
def q4 (K0:DK ρ) (y1 y4 y7:Int) (B:EL) (e:Int):ρ:=p95 fail fu (fun y10 y11 y12=>tobP fail y10 (fun s13=>q5 fail fu K0 y1 y4 y7 s13 y11 y12)) B e 24
def q3 (K0:DK ρ) (y1 y4:Int) (B:EL) (e:Int):ρ:=p91 fail fu (fun y7 y8 y9=>q4 fail fu K0 y1 y4 y7 y8 y9) B e
def q2 (K0:DK ρ) (y1:Int) (B:EL) (e:Int):ρ:=p91 fail fu (fun y4 y5 y6=>q3 fail fu K0 y1 y4 y5 y6) B e
theorem decl_q (K0:DK ρ) (B:EL) (e:Int):p76 fail fu K0 B e=p93 fail fu (fun y1 y2 y3=>q2 fail fu K0 y1 y2 y3) B e 1 5:=rfl
variable (hfu:200≤fu)
include hfu
section
variable (K:DK ρ) (B:EL) (e:Int) (he:e≠0)
include he
theorem dead6 (y1 y4 y7:Int) (s13 s17:ByteArray):q6 fail fu K y1 y4 y7 s13 s17 B e=K y1 y4 y7 s13 s17 0 0 ⟨#[]⟩ nilE nilE 0 0 ⟨#[]⟩ nilE nilE nilE B e:=by
 rw [q6,eqlF he,cond_false,dead8 fail fu hfu _ _ _ _ _ _ _ _ _ _ B e he]
theorem dead5 (y1 y4 y7:Int) (s13:ByteArray):q5 fail fu K y1 y4 y7 s13 B e=K y1 y4 y7 s13 ⟨#[]⟩ 0 0 ⟨#[]⟩ nilE nilE 0 0 ⟨#[]⟩ nilE nilE nilE B e:=by
 rw [q5,textE _ _ _ _ _ he,show (nilE:EL)=encB [] from rfl,z2o];exact dead6 fail fu hfu K B e he _ _ _ _ _
theorem deadq4 (y1 y4 y7:Int):q4 fail fu K y1 y4 y7 B e=K y1 y4 y7 ⟨#[]⟩ ⟨#[]⟩ 0 0 ⟨#[]⟩ nilE nilE 0 0 ⟨#[]⟩ nilE nilE nilE B e:=by
 rw [q4,textE _ _ _ _ _ he,show (nilE:EL)=encB [] from rfl,z2o];exact dead5 fail fu hfu K B e he _ _ _ _
theorem dead3 (y1 y4:Int):q3 fail fu K y1 y4 B e=K y1 y4 0 ⟨#[]⟩ ⟨#[]⟩ 0 0 ⟨#[]⟩ nilE nilE 0 0 ⟨#[]⟩ nilE nilE nilE B e:=by
 rw [q3,numE _ _ _ _ _ he];exact deadq4 fail fu hfu K B e he _ _ _
theorem dead2 (y1:Int):q2 fail fu K y1 B e=K y1 0 0 ⟨#[]⟩ ⟨#[]⟩ 0 0 ⟨#[]⟩ nilE nilE 0 0 ⟨#[]⟩ nilE nilE nilE B e:=by
 rw [q2,numE _ _ _ _ _ he];exact dead3 fail fu hfu K B e he _ _
end
variable (k:Nat) (hk:k≤5) (bs:List UInt8) (hb:bs.length≤1099511627776)
include hk hb
theorem q6_rd (y4 y7:Int) (s13 s17:ByteArray):match rdD6 k bs with
  | .ok (ty,val,l,bs')=>∀ K:DK ρ,q6 fail fu K (k:Nat) y4 y7 s13 s17 (encB bs) 0=K (k:Nat) y4 y7 s13 s17 ty.k ty.n ty.nm (Lv.rows ty.ls) (Tm.rows ty.args) val.k val.n val.nm (Lv.rows val.ls) (Tm.rows val.args) (l.map ctRow) (encB bs') 0
  | .error e=>DErr (fun K=>q6 fail fu K (k:Nat) y4 y7 s13 s17 (encB bs) 0) e:=by
 have htm:=w3c (ρ:=ρ) fail fu (by omega) bs hb
 have h1:∀ K:DK ρ,q6 fail fu K (k:Nat) y4 y7 s13 s17 (encB bs) 0=p65 fail fu (fun y77 y78 y79 y80 y81 y82 y83=>p76_8 fail fu K (k:Nat) y4 y7 s13 s17 y82 y83 y77 y78 y79 y80 y81) (encB bs) 0:=fun K=>by rw [q6,eqlT rfl,cond_true]
 unfold rdD6
 cases htt:z1c bs with
 | error e =>
  rw [htt] at htm
  obtain⟨he,a,b,c,l,g,B,hB⟩:=htm
  dsimp only at hB
  exact DErr.of he fun K=>(h1 K).trans ((hB _).trans (dead8 fail fu hfu _ _ _ _ _ _ _ _ _ _ B e he K))
 | ok x =>
  obtain⟨t,bs2⟩:=x
  have hsub:=z7u htt
  rw [htt] at htm
  simp only [TmO2] at htm
  have ht:=tail_rd (ρ:=ρ) fail fu hfu (k:Nat) y4 y7 s13 s17 t.k t.n t.nm (Lv.rows t.ls) (Tm.rows t.args) k hk rfl bs2 (by omega)
  have h2:∀ K:DK ρ,q6 fail fu K (k:Nat) y4 y7 s13 s17 (encB bs) 0=_:=fun K=>(h1 K).trans (htm _)
  dsimp only
  cases hcc:w1h k bs2 with
  | error e=>rw [hcc] at ht;exact DErr.eq ht h2
  | ok x=>obtain⟨v,l,bs3⟩:=x;rw [hcc] at ht;intro K;exact (h2 K).trans (ht K)
theorem q5_rd (y4 y7:Int) (s13:ByteArray):match rdD5 k bs with
  | .ok (s17,ty,val,l,bs')=>∀ K:DK ρ,q5 fail fu K (k:Nat) y4 y7 s13 (encB bs) 0=K (k:Nat) y4 y7 s13 s17 ty.k ty.n ty.nm (Lv.rows ty.ls) (Tm.rows ty.args) val.k val.n val.nm (Lv.rows val.ls) (Tm.rows val.args) (l.map ctRow) (encB bs') 0
  | .error e=>DErr (fun K=>q5 fail fu K (k:Nat) y4 y7 s13 (encB bs) 0) e:=by
 have htx:=w2b (ρ:=ρ) fail fu (by omega) bs hb 24 (by omega)
 unfold rdD5
 cases htt:rdTxt 24 bs with
 | error e =>
  rw [htt] at htx
  obtain⟨he,B,hB⟩:=htx
  dsimp only at hB
  exact DErr.of he fun K=>(hB _).trans ((z2o fail [] _).trans (dead6 fail fu hfu K B e he _ _ _ _ _))
 | ok x =>
  obtain⟨s,bs2⟩:=x
  have hsub:=z2q htt
  rw [htt] at htx
  simp only [SOut] at htx
  have h2:∀ K:DK ρ,q5 fail fu K (k:Nat) y4 y7 s13 (encB bs) 0=q6 fail fu K (k:Nat) y4 y7 s13 ⟨s.toArray⟩ (encB bs2) 0:=fun K=>(htx _).trans (z2o fail s _)
  have ht:=q6_rd (ρ:=ρ) fail fu hfu k hk bs2 (by omega) y4 y7 s13 ⟨s.toArray⟩
  dsimp only
  cases hcc:rdD6 k bs2 with
  | error e=>rw [hcc] at ht;exact DErr.eq ht h2
  | ok x=>obtain⟨t,v,l,bs3⟩:=x;rw [hcc] at ht;intro K;exact (h2 K).trans (ht K)
theorem q4_rd (y4 y7:Int):match rdD4 k bs with
  | .ok (s13,s17,ty,val,l,bs')=>∀ K:DK ρ,q4 fail fu K (k:Nat) y4 y7 (encB bs) 0=K (k:Nat) y4 y7 s13 s17 ty.k ty.n ty.nm (Lv.rows ty.ls) (Tm.rows ty.args) val.k val.n val.nm (Lv.rows val.ls) (Tm.rows val.args) (l.map ctRow) (encB bs') 0
  | .error e=>DErr (fun K=>q4 fail fu K (k:Nat) y4 y7 (encB bs) 0) e:=by
 have htx:=w2b (ρ:=ρ) fail fu (by omega) bs hb 24 (by omega)
 unfold rdD4
 cases htt:rdTxt 24 bs with
 | error e =>
  rw [htt] at htx
  obtain⟨he,B,hB⟩:=htx
  dsimp only at hB
  exact DErr.of he fun K=>(hB _).trans ((z2o fail [] _).trans (dead5 fail fu hfu K B e he _ _ _ _))
 | ok x =>
  obtain⟨s,bs2⟩:=x
  have hsub:=z2q htt
  rw [htt] at htx
  simp only [SOut] at htx
  have h2:∀ K:DK ρ,q4 fail fu K (k:Nat) y4 y7 (encB bs) 0=q5 fail fu K (k:Nat) y4 y7 ⟨s.toArray⟩ (encB bs2) 0:=fun K=>(htx _).trans (z2o fail s _)
  have ht:=q5_rd (ρ:=ρ) fail fu hfu k hk bs2 (by omega) y4 y7 ⟨s.toArray⟩
  dsimp only
  cases hcc:rdD5 k bs2 with
  | error e=>rw [hcc] at ht;exact DErr.eq ht h2
  | ok x=>obtain⟨s2,t,v,l,bs3⟩:=x;rw [hcc] at ht;intro K;exact (h2 K).trans (ht K)
theorem q3_rd (y4:Int):match rdD3 k bs with
  | .ok (ct,s13,s17,ty,val,l,bs')=>∀ K:DK ρ,q3 fail fu K (k:Nat) y4 (encB bs) 0=K (k:Nat) y4 (ct:Nat) s13 s17 ty.k ty.n ty.nm (Lv.rows ty.ls) (Tm.rows ty.args) val.k val.n val.nm (Lv.rows val.ls) (Tm.rows val.args) (l.map ctRow) (encB bs') 0
  | .error e=>DErr (fun K=>q3 fail fu K (k:Nat) y4 (encB bs) 0) e:=by
 have htx:=w1k (ρ:=ρ) fail fu (by omega) bs hb
 unfold rdD3
 cases htt:rdNum bs with
 | error e =>
  rw [htt] at htx
  obtain⟨he,B,hB⟩:=htx
  dsimp only at hB
  exact DErr.of he fun K=>(hB _).trans (deadq4 fail fu hfu K B e he _ _ _)
 | ok x =>
  obtain⟨n,bs2⟩:=x
  have hsub:=z1i htt
  rw [htt] at htx
  simp only [KOut] at htx
  have h2:∀ K:DK ρ,q3 fail fu K (k:Nat) y4 (encB bs) 0=q4 fail fu K (k:Nat) y4 (n:Nat) (encB bs2) 0:=fun K=>htx _
  have ht:=q4_rd (ρ:=ρ) fail fu hfu k hk bs2 (by omega) y4 (n:Nat)
  dsimp only
  cases hcc:rdD4 k bs2 with
  | error e=>rw [hcc] at ht;exact DErr.eq ht h2
  | ok x=>obtain⟨s1,s2,t,v,l,bs3⟩:=x;rw [hcc] at ht;intro K;exact (h2 K).trans (ht K)
theorem q2_rd:match rdD2 k bs with
  | .ok (pa,ct,s13,s17,ty,val,l,bs')=>∀ K:DK ρ,q2 fail fu K (k:Nat) (encB bs) 0=K (k:Nat) (pa:Nat) (ct:Nat) s13 s17 ty.k ty.n ty.nm (Lv.rows ty.ls) (Tm.rows ty.args) val.k val.n val.nm (Lv.rows val.ls) (Tm.rows val.args) (l.map ctRow) (encB bs') 0
  | .error e=>DErr (fun K=>q2 fail fu K (k:Nat) (encB bs) 0) e:=by
 have htx:=w1k (ρ:=ρ) fail fu (by omega) bs hb
 unfold rdD2
 cases htt:rdNum bs with
 | error e =>
  rw [htt] at htx
  obtain⟨he,B,hB⟩:=htx
  dsimp only at hB
  exact DErr.of he fun K=>(hB _).trans (dead3 fail fu hfu K B e he _ _)
 | ok x =>
  obtain⟨n,bs2⟩:=x
  have hsub:=z1i htt
  rw [htt] at htx
  simp only [KOut] at htx
  have h2:∀ K:DK ρ,q2 fail fu K (k:Nat) (encB bs) 0=q3 fail fu K (k:Nat) (n:Nat) (encB bs2) 0:=fun K=>htx _
  have ht:=q3_rd (ρ:=ρ) fail fu hfu k hk bs2 (by omega) (n:Nat)
  dsimp only
  cases hcc:rdD3 k bs2 with
  | error e=>rw [hcc] at ht;exact DErr.eq ht h2
  | ok x=>obtain⟨ct,s1,s2,t,v,l,bs3⟩:=x;rw [hcc] at ht;intro K;exact (h2 K).trans (ht K)
omit hk in
omit k in
theorem Decl_rd:DOut (fun K=>p76 fail fu K (encB bs) 0) (z5b bs):=by
 have hkind:=w6k (ρ:=ρ) fail fu (by omega) bs hb 1 5 (by omega) (by omega)
 unfold z5b
 cases hk:z2c 1 5 bs with
 | error e =>
  rw [hk] at hkind
  obtain⟨he,B,hB⟩:=hkind
  dsimp only at hB
  exact DErr.of he fun K=>(decl_q fail fu K _ _).trans ((hB _).trans (dead2 fail fu hfu K B e he _))
 | ok x =>
  obtain⟨k,bs2⟩:=x
  have hk1:=z2j hk
  rw [hk] at hkind
  simp only [KOut] at hkind
  have h2:∀ K:DK ρ,p76 fail fu K (encB bs) 0=q2 fail fu K (k:Nat) (encB bs2) 0:=fun K=>(decl_q fail fu K _ _).trans (hkind _)
  have ht:=q2_rd (ρ:=ρ) fail fu hfu k (by omega) bs2 (by omega)
  dsimp only
  cases hcc:rdD2 k bs2 with
  | error e=>rw [hcc] at ht;exact DErr.eq ht h2
  | ok x=>obtain⟨pa,ct,s1,s2,t,v,l,bs3⟩:=x;rw [hcc] at ht;intro K;exact (h2 K).trans (ht K)
end
end Go.Proofs.Ythncmjlcmlmnmaa
