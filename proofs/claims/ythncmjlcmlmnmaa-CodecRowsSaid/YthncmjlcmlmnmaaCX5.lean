/- A part of the proof. Conditions: none. -/
import Derived.Test.YthncmjlcmlmnmaaCX4
namespace Go.Proofs.Ythncmjlcmlmnmaa
open Go V
set_option maxRecDepth 100000
set_option maxHeartbeats 4000000
def D_p110 (fu:Nat):Prop:=∀ {K0:Int→Int→EL→EL→Int→Int→Prop} (L:EL→Nat) (_:L=List.length) {x0:EL} {x1 x2 x3:Int} (_:p110 False fu K0 x0 x1 x2 x3),Den Try.prog G0 110 [.ptr [.c (.sl 1 x0 none),.c (.v (.int .i64 x1))],.c (.v (.int .i64 x2)),.ptr [.c (.v (.int .i64 x3))]] (fun r bs=>(∃ (y0 y1:Int) (y2 y3:EL) (y4 y5:Int) (o1:OV),(r=.agg [.c (.v (.int .i64 y0)),.c (.v (.int .i64 y1)),.c (.sl 3 y2 none)]∧bs=[.ptr [.c (.sl 1 y3 none),.c (.v (.int .i64 y4))],o1,.ptr [.c (.v (.int .i64 y5))]])∧K0 y0 y1 y2 y3 y4 y5))
theorem b_p110 (fu:Nat)(ih_p110:D_p110 fu){K0:Int→Int→EL→EL→Int→Int→Prop}(L:EL→Nat)(hN:L=List.length){x0:EL}{x1 x2 x3:Int}(h:p110_b False fu (p110 False fu) K0 x0 x1 x2 x3):Den Try.prog G0 110 [.ptr [.c (.sl 1 x0 none),.c (.v (.int .i64 x1))],.c (.v (.int .i64 x2)),.ptr [.c (.v (.int .i64 x3))]] (fun r bs=>(∃ (y0 y1:Int) (y2 y3:EL) (y4 y5:Int) (o1:OV),(r=.agg [.c (.v (.int .i64 y0)),.c (.v (.int .i64 y1)),.c (.sl 3 y2 none)]∧bs=[.ptr [.c (.sl 1 y3 none),.c (.v (.int .i64 y4))],o1,.ptr [.c (.v (.int .i64 y5))]])∧K0 y0 y1 y2 y3 y4 y5)):=by
 obtain⟨O,hO⟩:∃ O,O=std 2 T G0 (Den Try.prog G0):=⟨_,rfl⟩
 have hLO:L=O.len:=by rw [hN,hO];rfl
 subst hLO
 refine den_h hO tiA mixed tabOk (fn:=Try.f110) (sh:=true) (by kernel_rfl) rfl rfl rfl rfl ?_
 intro Q b
 unfold p110_b at h
 conv=>cbv
 refine z0c hO [.ref 2,.ref 1,.shut,.shut,.shut] (d_p137 fu O.len hN h) ?_
 intro e Q a b
 conv=>cbv
 refine⟨by subst a hO;rfl,?_⟩
 intro r bs d
 rw [b] at d
 clear a b h
 obtain⟨y1,y2,y3,_,_,_,⟨rfl,rfl⟩,h⟩:=d
 conv=>cbv
 refine br_h hO h (by subst hO;rfl) (fun k1 h=>?_) (fun k1 h=>?_)
 conv=>cbv
 rw [b]
 exact⟨0,0,nilE,y1,y2,y3,_,⟨(by subst hO;rfl),(by subst hO;rfl)⟩,h⟩
 conv=>cbv
 refine z0b hO ?_
 conv=>cbv
 refine z0c hO [.ref 2,.shut,.shut] (d_p93 fu O.len hN h) ?_
 intro e Q a b
 conv=>cbv
 refine⟨by subst a hO;rfl,?_⟩
 intro r bs d
 rw [b] at d
 clear a b h
 obtain⟨y4,y5,y6,_,_,⟨rfl,rfl⟩,h⟩:=d
 conv=>cbv
 refine z0f hO tiA h (by subst hO;rfl) [0,1,2,6,7,8] [0,1,7000,8000] [] (fun tm m=>∃ (j7:EL) (j8:Int) (j9:Int) (j10:Int),((tm=frame 0 59 [(0,.p 0 0 0),(1,.c (.v (.int .i64 x2))),(2,.p 1 1 0),(6,.p 7000 2 0),(7,.p 8000 2 0),(8,.c (.v (.int .i64 j10)))]∧m=⟨[(0,.blk 0 [.c (.sl 1 j7 none),.c (.v (.int .i64 j8))]),(1,.blk 1 [.c (.v (.int .i64 y3))]),(7000,.blk 2 [.c (.v (.int .i64 0)),.c (.v (.int .i64 0)),.c (.sl 3 [] (some []))]),(8000,.blk 2 [.c (.v (.int .i64 y4)),.c (.v (.int .i64 j9)),.c (.sl 3 [] (some []))])],3⟩))∧p110_3 False fu (p110 False fu) K0 x2 y3 y4 j7 j8 j9 j10) (fun k4 h L hL_3=>?_) (fun k4 h L hL_3=>?_) ?_
 conv=>cbv
 exact hL_3 _ _ ⟨y5,y6,0,1,⟨(by (conv=>lhs;cbv)<;>(subst hO;rfl)),(by (conv=>lhs;cbv)<;>(subst hO;rfl))⟩,h⟩
 conv=>cbv
 refine z0f hO tiA h (by subst hO;rfl) [0,1,2,6,7,8,23,26] [0,1,7000,8000] [] (fun tm m=>∃ (j26:Bool),((tm=frame 0 59 [(0,.p 0 0 0),(1,.c (.v (.int .i64 x2))),(2,.p 1 1 0),(6,.p 7000 2 0),(7,.p 8000 2 0),(8,.c (.v (.int .i64 0))),(23,.c (.v (.int .i64 y4))),(26,.c (.v (.bool j26)))]∧m=⟨[(0,.blk 0 [.c (.sl 1 y5 none),.c (.v (.int .i64 y6))]),(1,.blk 1 [.c (.v (.int .i64 y3))]),(7000,.blk 2 [.c (.v (.int .i64 0)),.c (.v (.int .i64 0)),.c (.sl 3 [] (some []))]),(8000,.blk 2 [.c (.v (.int .i64 y4)),.c (.v (.int .i64 0)),.c (.sl 3 [] (some []))])],3⟩))∧p110_7 False fu (p110 False fu) K0 x2 y3 y4 y5 y6 j26) (fun k8 h L hL_7=>?_) (fun k8 h L hL_7=>?_) ?_
 conv=>cbv
 exact hL_7 _ _ ⟨(z0a .eql y4 2),⟨(by (conv=>lhs;cbv)<;>(subst hO;rfl)),(by (conv=>lhs;cbv)<;>(subst hO;rfl))⟩,h⟩
 conv=>cbv
 exact hL_7 _ _ ⟨(z0a .eql y4 3),⟨(by (conv=>lhs;cbv)<;>(subst hO;rfl)),(by (conv=>lhs;cbv)<;>(subst hO;rfl))⟩,h⟩
 rintro tm m ⟨j26,hs,h⟩
 unfold p110_7 at h
 obtain⟨rfl,rfl⟩:=hs
 conv=>cbv
 refine z0f hO tiA h (by subst hO;rfl) [0,1,2,6,7,8] [0,1,7000,8000] [] (fun tm m=>∃ (j27:EL) (j28:Int) (j29:Int) (j30:Int),((tm=frame 0 59 [(0,.p 0 0 0),(1,.c (.v (.int .i64 x2))),(2,.p 1 1 0),(6,.p 7000 2 0),(7,.p 8000 2 0),(8,.c (.v (.int .i64 j30)))]∧m=⟨[(0,.blk 0 [.c (.sl 1 j27 none),.c (.v (.int .i64 j28))]),(1,.blk 1 [.c (.v (.int .i64 y3))]),(7000,.blk 2 [.c (.v (.int .i64 0)),.c (.v (.int .i64 0)),.c (.sl 3 [] (some []))]),(8000,.blk 2 [.c (.v (.int .i64 y4)),.c (.v (.int .i64 j29)),.c (.sl 3 [] (some []))])],3⟩))∧p110_4 False fu (p110 False fu) K0 x2 y3 y4 j27 j28 j29 j30) (fun k5 h L hL_4=>?_) (fun k5 h L hL_4=>?_) ?_
 conv=>cbv
 exact hL_4 _ _ ⟨y5,y6,0,2,⟨(by (conv=>lhs;cbv)<;>(subst hO;rfl)),(by (conv=>lhs;cbv)<;>(subst hO;rfl))⟩,h⟩
 conv=>cbv
 refine z0f hO tiA h (by subst hO;rfl) [0,1,2,6,7,8] [0,1,7000,8000] [] (fun tm m=>∃ (j31:EL) (j32:Int) (j33:Int),((tm=frame 0 59 [(0,.p 0 0 0),(1,.c (.v (.int .i64 x2))),(2,.p 1 1 0),(6,.p 7000 2 0),(7,.p 8000 2 0),(8,.c (.v (.int .i64 0)))]∧m=⟨[(0,.blk 0 [.c (.sl 1 j31 none),.c (.v (.int .i64 j32))]),(1,.blk 1 [.c (.v (.int .i64 y3))]),(7000,.blk 2 [.c (.v (.int .i64 0)),.c (.v (.int .i64 0)),.c (.sl 3 [] (some []))]),(8000,.blk 2 [.c (.v (.int .i64 y4)),.c (.v (.int .i64 j33)),.c (.sl 3 [] (some []))])],3⟩))∧p110_5 False fu (p110 False fu) K0 x2 y3 y4 j31 j32 j33) (fun k6 h L hL_5=>?_) (fun k6 h L hL_5=>?_) ?_
 conv=>cbv
 refine z0c hO [.ref 2] (d_p91 fu O.len hN h) ?_
 intro e Q a b
 conv=>cbv
 refine⟨by subst a hO;rfl,?_⟩
 intro r bs d
 rw [b] at d
 clear a b h
 obtain⟨y34,y35,y36,⟨rfl,rfl⟩,h⟩:=d
 conv=>cbv
 refine z0f hO tiA h (by subst hO;rfl) [0,1,2,6,7,8] [0,1,7000,8000] [] (fun tm m=>∃ (j37:EL) (j38:Int),((tm=frame 0 59 [(0,.p 0 0 0),(1,.c (.v (.int .i64 x2))),(2,.p 1 1 0),(6,.p 7000 2 0),(7,.p 8000 2 0),(8,.c (.v (.int .i64 0)))]∧m=⟨[(0,.blk 0 [.c (.sl 1 j37 none),.c (.v (.int .i64 j38))]),(1,.blk 1 [.c (.v (.int .i64 y3))]),(7000,.blk 2 [.c (.v (.int .i64 0)),.c (.v (.int .i64 0)),.c (.sl 3 [] (some []))]),(8000,.blk 2 [.c (.v (.int .i64 y4)),.c (.v (.int .i64 y34)),.c (.sl 3 [] (some []))])],3⟩))∧p110_6 False fu (p110 False fu) K0 x2 y3 y4 y34 j37 j38) (fun k7 h L hL_6=>?_) (fun k7 h L hL_6=>?_) ?_
 conv=>cbv
 refine z0c hO [.ref 2,.shut] (d_p94 fu O.len hN h) ?_
 intro e Q a b
 conv=>cbv
 refine⟨by subst a hO;rfl,?_⟩
 intro r bs d
 rw [b] at d
 clear a b h
 obtain⟨y39,y40,_,⟨rfl,rfl⟩,h⟩:=d
 conv=>cbv
 exact hL_6 _ _ ⟨y39,y40,⟨(by (conv=>lhs;cbv)<;>(subst hO;rfl)),(by (conv=>lhs;cbv)<;>(subst hO;rfl))⟩,h⟩
 conv=>cbv
 exact hL_6 _ _ ⟨y35,y36,⟨(by (conv=>lhs;cbv)<;>(subst hO;rfl)),(by (conv=>lhs;cbv)<;>(subst hO;rfl))⟩,h⟩
 rintro tm m ⟨j37,j38,hs,h⟩
 unfold p110_6 at h
 obtain⟨rfl,rfl⟩:=hs
 conv=>cbv
 exact hL_5 _ _ ⟨j37,j38,y34,⟨(by (conv=>lhs;cbv)<;>(subst hO;rfl)),(by (conv=>lhs;cbv)<;>(subst hO;rfl))⟩,h⟩
 conv=>cbv
 exact hL_5 _ _ ⟨y5,y6,0,⟨(by (conv=>lhs;cbv)<;>(subst hO;rfl)),(by (conv=>lhs;cbv)<;>(subst hO;rfl))⟩,h⟩
 rintro tm m ⟨j31,j32,j33,hs,h⟩
 unfold p110_5 at h
 obtain⟨rfl,rfl⟩:=hs
 conv=>cbv
 exact hL_4 _ _ ⟨j31,j32,j33,0,⟨(by (conv=>lhs;cbv)<;>(subst hO;rfl)),(by (conv=>lhs;cbv)<;>(subst hO;rfl))⟩,h⟩
 rintro tm m ⟨j27,j28,j29,j30,hs,h⟩
 unfold p110_4 at h
 obtain⟨rfl,rfl⟩:=hs
 conv=>cbv
 exact hL_3 _ _ ⟨j27,j28,j29,j30,⟨(by (conv=>lhs;cbv)<;>(subst hO;rfl)),(by (conv=>lhs;cbv)<;>(subst hO;rfl))⟩,h⟩
 rintro tm m ⟨j7,j8,j9,j10,hs,h⟩
 unfold p110_3 at h
 obtain⟨rfl,rfl⟩:=hs
 conv=>cbv
 refine z0r hO tiA [0,1,2,6,7,39,40] [0,1,7000,8000,56000] [] (fun (n:Nat) tm m=>∃ (z11:EL) (z12:Int) (z13:Int) (z14:EL) (z15:Int),((z14=[]∧tm=frame 0 59 [(0,.p 0 0 0),(1,.c (.v (.int .i64 x2))),(2,.p 1 1 0),(6,.p 7000 2 0),(7,.p 8000 2 0),(39,.c (.v (.int .i64 j10))),(40,.c (.v (.int .i64 z15)))]∧m=⟨[(0,.blk 0 [.c (.sl 1 z11 none),.c (.v (.int .i64 z12))]),(1,.blk 1 [.c (.v (.int .i64 z13))]),(7000,.blk 2 [.c (.v (.int .i64 0)),.c (.v (.int .i64 0)),.c (.sl 3 [] (some []))]),(8000,.blk 2 [.c (.v (.int .i64 y4)),.c (.v (.int .i64 j9)),.c (.sl 3 [] (some []))])],3⟩)∨(tm=frame 0 59 [(0,.p 0 0 0),(1,.c (.v (.int .i64 x2))),(2,.p 1 1 0),(6,.p 7000 2 0),(7,.p 8000 2 0),(39,.c (.v (.int .i64 j10))),(40,.c (.v (.int .i64 z15)))]∧m=⟨[(0,.blk 0 [.c (.sl 1 z11 none),.c (.v (.int .i64 z12))]),(1,.blk 1 [.c (.v (.int .i64 z13))]),(7000,.blk 2 [.c (.v (.int .i64 0)),.c (.v (.int .i64 0)),.c (.sl 3 [] (some []))]),(8000,.blk 2 [.c (.v (.int .i64 y4)),.c (.v (.int .i64 j9)),.t 56000 2 (O.len z14)]),(56000,.arr 2 3 z14 none false)],3⟩))∧p110_2L False fu (p110 False fu) K0 x2 y4 j9 j10 n z11 z12 z13 z14 z15) (fun n=>n) fu ⟨j7,j8,y3,nilE,0,(.inl ⟨rfl,(by (conv=>lhs;cbv)<;>(subst hO;rfl)),(by (conv=>lhs;cbv)<;>(subst hO;rfl))⟩),h⟩ ?_
 rintro n1 tm m L ⟨z11,z12,z13,z14,z15,hs,h⟩ hLn1
 (cases n1 with
 | zero=>rw [p110_2L] at h;exact h.elim
 | succ n1 =>
 rw [p110_2L] at h
 unfold p110_2 at h
 rcases hs with hs | hs
 obtain⟨rfl,rfl,rfl⟩:=hs
 conv=>cbv
 refine br_h hO h (by subst hO;rfl) (fun k2 h=>?_) (fun k2 h=>?_)
 conv=>cbv
 refine z0b hO ?_
 conv=>cbv
 refine z0f hO tiA h (by subst hO;rfl) [0,1,2,6,7,39,40] [0,1,7000,8000,56000] [] (fun tm m=>∃ (j16:EL) (j17:Int) (j18:Int) (j19:EL),((tm=frame 0 59 [(0,.p 0 0 0),(1,.c (.v (.int .i64 x2))),(2,.p 1 1 0),(6,.p 7000 2 0),(7,.p 8000 2 0),(39,.c (.v (.int .i64 j10))),(40,.c (.v (.int .i64 z15)))]∧m=⟨[(0,.blk 0 [.c (.sl 1 j16 none),.c (.v (.int .i64 j17))]),(1,.blk 1 [.c (.v (.int .i64 j18))]),(7000,.blk 2 [.c (.v (.int .i64 0)),.c (.v (.int .i64 0)),.c (.sl 3 [] (some []))]),(8000,.blk 2 [.c (.v (.int .i64 y4)),.c (.v (.int .i64 j9)),.t 56000 2 (O.len j19)]),(56000,.arr 2 3 j19 none false)],3⟩)∨(j19=[]∧tm=frame 0 59 [(0,.p 0 0 0),(1,.c (.v (.int .i64 x2))),(2,.p 1 1 0),(6,.p 7000 2 0),(7,.p 8000 2 0),(39,.c (.v (.int .i64 j10))),(40,.c (.v (.int .i64 z15)))]∧m=⟨[(0,.blk 0 [.c (.sl 1 j16 none),.c (.v (.int .i64 j17))]),(1,.blk 1 [.c (.v (.int .i64 j18))]),(7000,.blk 2 [.c (.v (.int .i64 0)),.c (.v (.int .i64 0)),.c (.sl 3 [] (some []))]),(8000,.blk 2 [.c (.v (.int .i64 y4)),.c (.v (.int .i64 j9)),.c (.sl 3 [] (some []))])],3⟩))∧p110_1 False fu (p110 False fu) K0 (p110_2L False fu (p110 False fu) K0 x2 y4 j9 j10 n1) z15 j16 j17 j18 j19) (fun k3 h L hL_1=>?_) (fun k3 h L hL_1=>?_) ?_
 conv=>cbv
 refine z0h hO tiA [[0,1],[],[],[],[]] [(0,true,false),(1,true,false),(2,true,false),(3,true,false),(4,true,false),(5,true,false),(6,false,false),(7,false,false),(8,false,true),(9,true,true),(10,false,true)] (by kernel_rfl) ?_
 conv=>cbv
 refine z0c hO [.ref 2,.shut,.ref 1] (ih_p110 O.len hN h) ?_
 intro e Q a b
 conv=>cbv
 refine⟨by subst a hO;rfl,?_⟩
 intro r bs d
 rw [b] at d
 clear a b h
 obtain⟨y20,y21,y22,y23,y24,y25,_,⟨rfl,rfl⟩,h⟩:=d
 conv=>cbv
 refine agr hO rfl rfl ?_
 refine agr hO rfl rfl ?_
 refine z0t hO h (fun g=>(by subst hO;exact g)) (fun h=>?_)
 conv=>cbv
 refine and_h h (fun g=>(by subst hO;exact g)) (fun h=>?_)
 refine z4g hO (by subst hO;exact List.cons_ne_nil _ _) ?_
 conv=>cbv
 refine z0b hO ?_
 conv=>cbv
 exact hL_1 _ _ ⟨y23,y24,y25,(nilE++(List.take 1 [[(CV.v (.int .i64 y20)),(CV.v (.int .i64 y21)),(CV.sl 3 y22 none)]])),(.inl ⟨(by (conv=>lhs;cbv)<;>(subst hO;rfl)),(by (conv=>lhs;cbv)<;>(subst hO;rfl))⟩),h⟩
 conv=>cbv
 exact hL_1 _ _ ⟨z11,z12,z13,nilE,(.inr ⟨rfl,(by (conv=>lhs;cbv)<;>(subst hO;rfl)),(by (conv=>lhs;cbv)<;>(subst hO;rfl))⟩),h⟩
 rintro tm m ⟨j16,j17,j18,j19,hs,h⟩
 unfold p110_1 at h
 rcases hs with hs | hs
 obtain⟨rfl,rfl⟩:=hs
 conv=>cbv
 exact hLn1 n1 _ _ (Nat.lt_succ_self n1) ⟨j16,j17,j18,j19,z0d .add .i64 z15 1,(.inr ⟨(by (conv=>lhs;cbv)<;>(subst hO;rfl)),(by (conv=>lhs;cbv)<;>(subst hO;rfl))⟩),h⟩
 obtain⟨rfl,rfl,rfl⟩:=hs
 conv=>cbv
 exact hLn1 n1 _ _ (Nat.lt_succ_self n1) ⟨j16,j17,j18,nilE,z0d .add .i64 z15 1,(.inl ⟨rfl,(by (conv=>lhs;cbv)<;>(subst hO;rfl)),(by (conv=>lhs;cbv)<;>(subst hO;rfl))⟩),h⟩
 conv=>cbv
 rw [b]
 exact⟨y4,j9,nilE,z11,z12,z13,_,⟨(by subst hO;rfl),(by subst hO;rfl)⟩,h⟩
 obtain⟨rfl,rfl⟩:=hs
 conv=>cbv
 refine br_h hO h (by subst hO;rfl) (fun k2 h=>?_) (fun k2 h=>?_)
 conv=>cbv
 refine z0b hO ?_
 conv=>cbv
 refine z0f hO tiA h (by subst hO;rfl) [0,1,2,6,7,39,40] [0,1,7000,8000,56000] [] (fun tm m=>∃ (j16:EL) (j17:Int) (j18:Int) (j19:EL),((tm=frame 0 59 [(0,.p 0 0 0),(1,.c (.v (.int .i64 x2))),(2,.p 1 1 0),(6,.p 7000 2 0),(7,.p 8000 2 0),(39,.c (.v (.int .i64 j10))),(40,.c (.v (.int .i64 z15)))]∧m=⟨[(0,.blk 0 [.c (.sl 1 j16 none),.c (.v (.int .i64 j17))]),(1,.blk 1 [.c (.v (.int .i64 j18))]),(7000,.blk 2 [.c (.v (.int .i64 0)),.c (.v (.int .i64 0)),.c (.sl 3 [] (some []))]),(8000,.blk 2 [.c (.v (.int .i64 y4)),.c (.v (.int .i64 j9)),.t 56000 2 (O.len j19)]),(56000,.arr 2 3 j19 none false)],3⟩))∧p110_1 False fu (p110 False fu) K0 (p110_2L False fu (p110 False fu) K0 x2 y4 j9 j10 n1) z15 j16 j17 j18 j19) (fun k3 h L hL_1=>?_) (fun k3 h L hL_1=>?_) ?_
 conv=>cbv
 refine z0h hO tiA [[0,1],[],[],[],[]] [(0,true,false),(1,true,false),(2,true,false),(3,true,false),(4,true,false),(5,true,false),(6,false,false),(7,false,false),(8,false,true),(9,true,true),(10,false,true)] (by kernel_rfl) ?_
 conv=>cbv
 refine z0c hO [.ref 2,.shut,.ref 1] (ih_p110 O.len hN h) ?_
 intro e Q a b
 conv=>cbv
 refine⟨by subst a hO;rfl,?_⟩
 intro r bs d
 rw [b] at d
 clear a b h
 obtain⟨y20,y21,y22,y23,y24,y25,_,⟨rfl,rfl⟩,h⟩:=d
 conv=>cbv
 refine agr hO rfl rfl ?_
 refine agr hO rfl rfl ?_
 refine z0t hO h (fun g=>(by subst hO;exact g)) (fun h=>?_)
 conv=>cbv
 refine⟨(by subst hO;rfl),?_⟩
 refine and_h h (fun g=>(by subst hO;exact g)) (fun h=>?_)
 refine z0b hO ?_
 conv=>cbv
 exact hL_1 _ _ ⟨y23,y24,y25,(z14++(List.take 1 [[(CV.v (.int .i64 y20)),(CV.v (.int .i64 y21)),(CV.sl 3 y22 none)]])),⟨(by (conv=>lhs;cbv)<;>(subst hO;rfl)),(by (conv=>lhs;cbv)<;>(subst hO;rfl))⟩,h⟩
 conv=>cbv
 exact hL_1 _ _ ⟨z11,z12,z13,z14,⟨(by (conv=>lhs;cbv)<;>(subst hO;rfl)),(by (conv=>lhs;cbv)<;>(subst hO;rfl))⟩,h⟩
 rintro tm m ⟨j16,j17,j18,j19,hs,h⟩
 unfold p110_1 at h
 obtain⟨rfl,rfl⟩:=hs
 conv=>cbv
 exact hLn1 n1 _ _ (Nat.lt_succ_self n1) ⟨j16,j17,j18,j19,z0d .add .i64 z15 1,(.inr ⟨(by (conv=>lhs;cbv)<;>(subst hO;rfl)),(by (conv=>lhs;cbv)<;>(subst hO;rfl))⟩),h⟩
 conv=>cbv
 refine z0o hO ?_
 conv=>cbv
 rw [b]
 exact⟨y4,j9,z14,z11,z12,z13,_,⟨(by subst hO;rfl),(by subst hO;rfl)⟩,h⟩)
theorem dd_p110 (fu:Nat):D_p110 fu:=by
 induction fu with
 | zero=>unfold D_p110;intros;rename_i h;rw [p110] at h;exact h.elim
 | succ n ih =>
  exact (by unfold D_p110;intro K0 L hN x0 x1 x2 x3 h;exact b_p110 n ih L hN (by rw [p110] at h;exact h))
theorem d_p110 (fu:Nat):D_p110 fu:=dd_p110 fu
theorem d_p67 (fu:Nat){K0:Int→Int→EL→EL→Int→Prop}(L:EL→Nat)(hN:L=List.length){x0:EL}{x1:Int}(h:p67 False fu K0 x0 x1):Den Try.prog G0 67 [.ptr [.c (.sl 1 x0 none),.c (.v (.int .i64 x1))]] (fun r bs=>(∃ (y0 y1:Int) (y2 y3:EL) (y4:Int),(r=.agg [.c (.v (.int .i64 y0)),.c (.v (.int .i64 y1)),.c (.sl 3 y2 none)]∧bs=[.ptr [.c (.sl 1 y3 none),.c (.v (.int .i64 y4))]])∧K0 y0 y1 y2 y3 y4)):=by
 obtain⟨O,hO⟩:∃ O,O=std 1 T G0 (Den Try.prog G0):=⟨_,rfl⟩
 have hLO:L=O.len:=by rw [hN,hO];rfl
 subst hLO
 refine den_h hO tiA mixed tabOk (fn:=Try.f67) (sh:=true) (by kernel_rfl) rfl rfl rfl rfl ?_
 intro Q b
 unfold p67 at h
 conv=>cbv
 refine z0c hO [.ref 2,.shut,.ref 1] (d_p110 fu O.len hN h) ?_
 intro e Q a b
 conv=>cbv
 refine⟨by subst a hO;rfl,?_⟩
 intro r bs d
 rw [b] at d
 clear a b h
 obtain⟨y1,y2,y3,y4,y5,y6,_,⟨rfl,rfl⟩,h⟩:=d
 conv=>cbv
 rw [b]
 exact⟨y1,y2,y3,y4,y5,⟨(by subst hO;rfl),(by subst hO;rfl)⟩,h⟩
inductive Lv where
 | mk (k n:Int) (args:List Lv)
def Lv.k:Lv→Int
 | .mk k _ _=>k
def Lv.n:Lv→Int
 | .mk _ n _=>n
def Lv.args:Lv→List Lv
 | .mk _ _ l=>l
mutual
def Lv.row:Lv→List CV
 | .mk k n l=>[.v (.int .i64 k),.v (.int .i64 n),.sl 3 (Lv.rows l) none]
def Lv.rows:List Lv→EL
 | []=>[]
 | a :: l=>Lv.row a :: Lv.rows l
end
theorem Lv.row_eq (l:Lv):l.row=[.v (.int .i64 l.k),.v (.int .i64 l.n),.sl 3 (Lv.rows l.args) none]:=by cases l;rfl
theorem Lv.rows_len:∀ l:List Lv,(Lv.rows l).length=l.length
 | []=>rfl
 | _ :: l=>by simp [Lv.rows,Lv.rows_len l]
theorem Lv.rows_append:∀ a b:List Lv,Lv.rows (a++b)=Lv.rows a++Lv.rows b
 | [],_=>rfl
 | x :: a,b=>by simp [Lv.rows,Lv.rows_append a b]
theorem Lv.rows_get {l:List Lv} {i:Nat} (h:i < l.length):(Lv.rows l).getD i []=l[i].row:=by
 induction l generalizing i with
 | nil=>simp at h
 | cons a l ih=>cases i with
  | zero=>rfl
  | succ i=>simpa [Lv.rows] using ih (by simpa using h)
def many {α:Type} (f:Nat→List UInt8→Except Int (α × List UInt8 × Nat)):Nat→Nat→List UInt8→Except Int (List α × List UInt8 × Nat)
 | 0,p,bs=>.ok ([],bs,p)
 | n + 1,p,bs=>match f p bs with
  | .error e=>.error e
  | .ok (a,bs,p)=>match many f n p bs with
   | .error e=>.error e
   | .ok (l,bs,p)=>.ok (a :: l,bs,p)
def lvN (k:Nat):Nat:=if k=1 then 1 else if k=2 then 2 else if k=3 then 2 else 0
def rdLv:Nat→Nat→List UInt8→Except Int (Lv × List UInt8 × Nat)
 | 0,p,_=>if 64 < p + 1 then .error 3 else .error 6
 | left + 1,p,bs=>if 64 < p + 1 then .error 3 else match z5a 0 4 bs with
  | .error e=>.error e
  | .ok (k,bs)=>if k=4 then (match rdNum bs with
    | .error e=>.error e
    | .ok (n,bs)=>if 4≤n then .error 7 else .ok (.mk 4 (n:Nat) [],bs,p + 1))
   else match many (rdLv left) (lvN k) (p + 1) bs with
    | .error e=>.error e
    | .ok (l,bs,p)=>.ok (.mk (k:Nat) 0 l,bs,p)
theorem z2s {lo hi:Nat} {bs r:List UInt8} {v:Nat} (h:z5a lo hi bs=.ok (v,r)):lo≤v∧v≤hi∧r.length < bs.length∧bs=varB v++r:=by
 unfold z5a at h;split at h
 ·rename_i v' r' hr
  split at h
  ·cases h
  ·injection h with h;injection h with h1 h2;subst h1;subst h2
   have:=w1q hr
   exact⟨by omega,by omega,this.2⟩
 ·cases h
theorem z2b {bs r:List UInt8} {v:Nat} (h:rdNum bs=.ok (v,r)):v≤1073741824∧r.length < bs.length∧bs=varB v++r:=by
 unfold rdNum at h;split at h
 ·rename_i v' r' hr
  split at h
  ·cases h
  ·injection h with h;injection h with h1 h2;subst h1;subst h2
   have:=w1q hr
   exact⟨by omega,this.2⟩
 ·cases h
theorem z3g {α:Type} {f:Nat→List UInt8→Except Int (α × List UInt8 × Nat)} {m:Nat} (hf:∀ p bs a r q,p≤m→f p bs=.ok (a,r,q)→r.length≤bs.length∧q≤m):∀ (n p:Nat) (bs:List UInt8) (l:List α) (r:List UInt8) (q:Nat),p≤m→many f n p bs=.ok (l,r,q)→r.length≤bs.length∧q≤m∧l.length=n
 | 0,p,bs,l,r,q,hp,h=>by simp only [many] at h;injection h with h;injection h with h1 h;injection h with h2 h3;subst h1 h2 h3;exact⟨Nat.le_refl _,hp,rfl⟩
 | n + 1,p,bs,l,r,q,hp,h=>by
  simp only [many] at h
  split at h
  ·cases h
  ·rename_i a bs1 p1 h1
   split at h
   ·cases h
   ·rename_i l' bs2 p2 h2
    injection h with h;injection h with h3 h;injection h with h4 h5;subst h3 h4 h5
    obtain⟨h6,h7⟩:=hf _ _ _ _ _ hp h1
    obtain⟨h8,h9,h10⟩:=z3g hf n p1 bs1 l' bs2 p2 h7 h2
    exact⟨by omega,h9,by simp [h10]⟩
theorem w0i:∀ (left p:Nat) (bs:List UInt8) (l:Lv) (r:List UInt8) (q:Nat),p≤64→rdLv left p bs=.ok (l,r,q)→r.length≤bs.length∧q≤64
 | 0,p,bs,l,r,q,hp,h=>by simp only [rdLv] at h;split at h<;>cases h
 | left + 1,p,bs,l,r,q,hp,h=>by
  simp only [rdLv] at h
  split at h
  ·cases h
  ·split at h
   ·cases h
   ·rename_i k bs1 hk
    have h1:=z2s hk
    split at h
    ·split at h
     ·cases h
     ·rename_i n bs2 hn
      have h2:=z2b hn
      split at h
      ·cases h
      ·injection h with h;injection h with _ h;injection h with h3 h4;subst h3 h4;exact⟨by omega,by omega⟩
    ·split at h
     ·cases h
     ·rename_i l2 bs2 p2 hm
      injection h with h;injection h with _ h;injection h with h3 h4;subst h3 h4
      have:=z3g (m:=64) (fun p bs a r q=>w0i left p bs a r q) _ _ _ _ _ _ (by omega) hm
      exact⟨by omega,this.2.1⟩
abbrev LK (ρ:Type):=Int→Int→EL→EL→Int→Int→ρ
def LvOut {ρ:Type} (p:LK ρ→ρ):Except Int (Lv × List UInt8 × Nat)→Prop
 | .ok (l,bs,q)=>∀ K:LK ρ,p K=K l.k l.n (Lv.rows l.args) (encB bs) 0 (q:Nat)
 | .error e=>e≠0∧∃ a b c B q,∀ K:LK ρ,p K=K a b c B e q
theorem w4c {ρ:Type} (fail:ρ) (fu:Nat) (s:LK ρ→EL→Int→Int→Int→ρ) (K:LK ρ) (d k j:Int) (B:EL) (e q:Int) (z:EL) (he:e≠0):∀ (r n:Nat) (i:Int),0≤i→i + (r:Nat)≤1000→r < n →
  p110_2L fail fu s K d k j (i + (r:Nat)) n B e q z i=K k j z B e q
 | 0,n + 1,i,hi,h1,h2=>by
  rw [p110_2L,p110_2,lssF (by omega),cond_false]
 | r + 1,n + 1,i,hi,h1,h2=>by
  rw [p110_2L,p110_2,lssT (by omega),cond_true,eqlF he,cond_false,p110_1,addZ (by omega) (by omega)]
  have:=w4c fail fu s K d k j B e q z he r n (i + 1) (by omega) (by omega) (by omega)
  rw [show i + ((r + 1:Nat):Int)=i + 1 + (r:Nat) by omega]
  exact this
theorem k1r {ρ:Type} (fail:ρ) (fu:Nat) (s:LK ρ→EL→Int→Int→Int→ρ) (f:Nat→List UInt8→Except Int (Lv × List UInt8 × Nat)) (d:Int) (k j:Int)
  (hf:∀ p bs a r q,p≤64→f p bs=.ok (a,r,q)→r.length≤bs.length∧q≤64) (N:Nat) (hs:∀ bs p,bs.length≤N→p≤64→LvOut (fun K=>s K (encB bs) 0 (z0d .add .i64 d 1) (p:Nat)) (f p bs)) :
  ∀ (r n:Nat) (bs:List UInt8) (p:Nat) (z:EL) (i:Nat),bs.length≤N→p≤64→z.length≤i→i + r≤1000→r < n →
   match many f r p bs with
   | .ok (l,bs',q)=>∀ K:LK ρ,p110_2L fail fu s K d k j ((i + r:Nat):Int) n (encB bs) 0 (p:Nat) z (i:Nat)=K k j (z++Lv.rows l) (encB bs') 0 (q:Nat)
   | .error e=>e≠0∧∃ c B q,∀ K:LK ρ,p110_2L fail fu s K d k j ((i + r:Nat):Int) n (encB bs) 0 (p:Nat) z (i:Nat)=K k j c B e q
 | 0,n + 1,bs,p,z,i,hb,hp,hz,hi,hn=>by
  simp only [many]
  intro K
  rw [p110_2L,p110_2,lssF (by omega),cond_false]
  simp [Lv.rows]
 | r + 1,n + 1,bs,p,z,i,hb,hp,hz,hi,hn=>by
  have h1:=hs bs p hb hp
  simp only [many]
  have step:∀ K:LK ρ,p110_2L fail fu s K d k j ((i + (r + 1):Nat):Int) (n + 1) (encB bs) 0 (p:Nat) z (i:Nat)=s (fun a b c B e q =>
    p110_2L fail fu s K d k j ((i + 1 + r:Nat):Int) n B e q (z++[[.v (.int .i64 a),.v (.int .i64 b),.sl 3 c none]]) ((i + 1:Nat):Int)) (encB bs) 0 (z0d .add .i64 d 1) (p:Nat):=fun K=>by
   rw [p110_2L,p110_2,lssT (by omega),cond_true,eqlT rfl,cond_true]
   congr 1
   funext a b c B e q
   rw [gd_y (by simp),gd_y (by simp;omega),p110_1,addZ (by omega) (by omega),show ((i:Nat):Int) + 1=((i + 1:Nat):Int) by omega,show i + (r + 1)=i + 1 + r by omega]
   rfl
  cases hfv:f p bs with
  | error e =>
   rw [hfv] at h1
   obtain⟨he,a,b,c,B,q,h1⟩:=h1
   dsimp only at h1
   refine⟨he,z++[[.v (.int .i64 a),.v (.int .i64 b),.sl 3 c none]],B,q,fun K=>?_⟩
   try dsimp only
   rw [step,h1]
   have:=w4c fail fu s K d k j B e q (z++[[.v (.int .i64 a),.v (.int .i64 b),.sl 3 c none]]) he r n ((i + 1:Nat):Int) (by omega) (by omega) (by omega)
   rw [show ((i + 1 + r:Nat):Int)=((i + 1:Nat):Int) + (r:Nat) by omega]
   exact this
  | ok x =>
   obtain⟨a,bs1,p1⟩:=x
   rw [hfv] at h1
   simp only [LvOut] at h1
   have h2:=hf _ _ _ _ _ hp hfv
   have ih:=k1r fail fu s f d k j hf N hs r n bs1 p1 (z++[a.row]) (i + 1) (by omega) h2.2 (by simp;omega) (by omega) (by omega)
   have hrow:∀ K:LK ρ,p110_2L fail fu s K d k j ((i + (r + 1):Nat):Int) (n + 1) (encB bs) 0 (p:Nat) z (i:Nat)=p110_2L fail fu s K d k j ((i + 1 + r:Nat):Int) n (encB bs1) 0 (p1:Nat) (z++[a.row]) ((i + 1:Nat):Int):=fun K=>by
    rw [step,h1,Lv.row_eq]
   try dsimp only
   cases hm:many f r p1 bs1 with
   | error e =>
    rw [hm] at ih
    obtain⟨he,c,B,q,h3⟩:=ih
    exact⟨he,c,B,q,fun K=>by rw [hrow,h3]⟩
   | ok x =>
    obtain⟨l2,bs2,p2⟩:=x
    rw [hm] at ih
    intro K
    rw [hrow,ih,List.append_assoc];rfl
theorem k0t {ρ:Type} (fail:ρ):∀ (left fu:Nat),left + 12≤fu→left≤32→∀ (bs:List UInt8) (p:Nat),bs.length≤1099511627776→p≤64 →
  LvOut (fun K=>p110 fail fu K (encB bs) 0 ((33 - left:Nat):Int) (p:Nat)) (rdLv left p bs):=by
 intro left
 induction left with
 | zero =>
  intro fu hf hl bs p hb hp
  obtain⟨m,rfl⟩:∃ m,fu=m + 1:=⟨fu - 1,by omega⟩
  have hpart:=fun K=>w0l (ρ:=ρ) fail m K (encB bs) p 64 33 32 (by omega)
  simp only [rdLv]
  by_cases h1:64 < p + 1
  ·rw [if_pos h1]
   refine⟨by omega,0,0,nilE,encB bs,((p + 1:Nat):Int),fun K=>?_⟩
   try dsimp only
   rw [p110,p110_b]
   erw [hpart]
   rw [if_pos h1,neqT (by omega),cond_true]
  ·rw [if_neg h1]
   refine⟨by omega,0,0,nilE,encB bs,((p + 1:Nat):Int),fun K=>?_⟩
   try dsimp only
   rw [p110,p110_b]
   erw [hpart]
   rw [if_neg h1,if_pos (by omega),neqT (by omega),cond_true]
 | succ left ih =>
  intro fu hf hl bs p hb hp
  obtain⟨m,rfl⟩:∃ m,fu=m + 1:=⟨fu - 1,by omega⟩
  have hpart:=fun K=>w0l (ρ:=ρ) fail m K (encB bs) p 64 (33 - (left + 1)) 32 (by omega)
  have hkind:=w8w (ρ:=ρ) fail m (by omega) bs hb 0 4 (by omega) (by omega)
  simp only [rdLv]
  by_cases h1:64 < p + 1
  ·rw [if_pos h1]
   refine⟨by omega,0,0,nilE,encB bs,((p + 1:Nat):Int),fun K=>?_⟩
   try dsimp only
   rw [p110,p110_b]
   erw [hpart]
   rw [if_pos h1,neqT (by omega),cond_true]
  ·rw [if_neg h1]
   generalize hs:p110 fail m=s
   generalize hd0:((33 - (left + 1):Nat):Int)=d at hpart
   have hd:z0d .add .i64 d 1=((33 - left:Nat):Int):=by subst hd0;rw [addZ (by omega) (by omega)];omega
   generalize hq0:((p + 1:Nat):Int)=q at hpart
   have hb1:∀ K:LK ρ,p110 fail (m + 1) K (encB bs) 0 d (p:Nat)=p93 fail m (fun y4 y5 y6=>bif (z0a .eql y4 1) then (p110_3 fail m s K d q y4 y5 y6 0 1) else (bif (z0a .eql y4 2) then (p110_7 fail m s K d q y4 y5 y6 (z0a .eql y4 2)) else (p110_7 fail m s K d q y4 y5 y6 (z0a .eql y4 3)))) (encB bs) 0 ((0:Nat):Int) ((4:Nat):Int):=fun K=>by
    rw [p110,p110_b,hs]
    erw [hpart]
    rw [if_neg h1,if_neg (by omega),neqF rfl,cond_false]
    rfl
   have end0:∀ (K:LK ρ) (k j:Int) (B:EL) (e:Int),e≠0→p110_2L fail m s K d k j 0 m B e q nilE 0=K k j nilE B e q:=fun K k j B e he=>by
    have:=w4c fail m s K d k j B e q nilE he 0 m 0 (by omega) (by omega) (by omega)
    exact this
   have end0':∀ (K:LK ρ) (k j:Int) (B:EL),p110_2L fail m s K d k j 0 m B 0 q nilE 0=K k j nilE B 0 q:=fun K k j B=>by
    obtain⟨m',hm'⟩:∃ m',m=m' + 1:=⟨m - 1,by omega⟩
    have:∀ m'',m''=m' + 1→p110_2L fail m s K d k j 0 m'' B 0 q nilE 0=K k j nilE B 0 q:=fun m'' h=>by
     subst h;rw [p110_2L,p110_2,lssF (by omega),cond_false]
    exact this m hm'
   cases hk:z5a 0 4 bs with
   | error e =>
    rw [hk] at hkind
    obtain⟨he,B,hB⟩:=hkind
    dsimp only at hB
    refine⟨he,0,0,nilE,B,q,fun K=>?_⟩
    try dsimp only
    rw [hb1,hB]
    rw [eqlF (by omega),cond_false,eqlF (by omega),cond_false,eqlF (by omega),p110_7,cond_false,eqlF (by omega),cond_false,p110_5,p110_4,p110_3]
    exact end0 K 0 0 B e he
   | ok x =>
    obtain⟨k,bs1⟩:=x
    have hk1:=z2s hk
    rw [hk] at hkind
    simp only [KOut] at hkind
    have hb2:∀ K:LK ρ,p110 fail (m + 1) K (encB bs) 0 d (p:Nat)=bif (z0a .eql (k:Nat) 1) then (p110_3 fail m s K d q (k:Nat) (encB bs1) 0 0 1) else (bif (z0a .eql (k:Nat) 2) then (p110_7 fail m s K d q (k:Nat) (encB bs1) 0 (z0a .eql (k:Nat) 2)) else (p110_7 fail m s K d q (k:Nat) (encB bs1) 0 (z0a .eql (k:Nat) 3))):=fun K=>by
     rw [hb1,hkind]
    have loop:∀ r,r=lvN k→(∀ K:LK ρ,p110 fail (m + 1) K (encB bs) 0 d (p:Nat)=p110_2L fail m s K d (k:Nat) 0 ((r:Nat):Int) m (encB bs1) 0 q nilE 0) →
      LvOut (fun K=>p110 fail (m + 1) K (encB bs) 0 d (p:Nat)) (match many (rdLv left) (lvN k) (p + 1) bs1 with
       | .error e=>.error e
       | .ok (l,bs,p)=>.ok (.mk (k:Nat) 0 l,bs,p)):=fun r hr hloop=>by
     have hN:lvN k≤2:=by unfold lvN;split<;>(try split)<;>(try split)<;>omega
     have:=k1r fail m s (rdLv left) d (k:Nat) 0 (fun p bs a r q=>w0i left p bs a r q) 1099511627776 (fun bs p hb hp=>by rw [hd,← hs];exact ih m (by omega) (by omega) bs p hb hp) (lvN k) m bs1 (p + 1) nilE 0 (by omega) (by omega) (by simp) (by omega) (by omega)
     rw [Nat.zero_add,hq0,← hr] at this
     rw [← hr]
     cases hm:many (rdLv left) r (p + 1) bs1 with
     | error e =>
      rw [hm] at this
      obtain⟨he,c,B,q',h⟩:=this
      exact⟨he,_,_,c,B,q',fun K=>by dsimp only;rw [hloop];exact h K⟩
     | ok x =>
      obtain⟨l2,bs2,p2⟩:=x
      rw [hm] at this
      intro K
      try dsimp only
      rw [hloop];exact this K
    dsimp only
    by_cases k1:k=1
    ·subst k1
     rw [if_neg (by omega)]
     exact loop 1 rfl (fun K=>by rw [hb2,eqlT (by omega),cond_true,p110_3];rfl)
    by_cases k2:k=2
    ·subst k2
     rw [if_neg (by omega)]
     exact loop 2 rfl (fun K=>by rw [hb2,eqlF (by omega),cond_false,eqlT (by omega),cond_true,p110_7,cond_true,p110_4,p110_3];rfl)
    by_cases k3:k=3
    ·subst k3
     rw [if_neg (by omega)]
     exact loop 2 rfl (fun K=>by rw [hb2,eqlF (by omega),cond_false,eqlF (by omega),cond_false,eqlT (by omega),p110_7,cond_true,p110_4,p110_3];rfl)
    by_cases k4:k=4
    ·subst k4
     rw [if_pos rfl]
     have hb3:∀ K:LK ρ,p110 fail (m + 1) K (encB bs) 0 d (p:Nat)=p91 fail m (fun y34 y35 y36=>bif (z0a .geq y34 4) then (p94 fail m (fun y39 y40=>p110_6 fail m s K d q 4 y34 y39 y40) y35 y36 7) else (p110_6 fail m s K d q 4 y34 y35 y36)) (encB bs1) 0:=fun K=>by
      rw [hb2,eqlF (by omega),cond_false,eqlF (by omega),cond_false,eqlF (by omega),p110_7,cond_false,eqlT (by omega),cond_true]
      rfl
     have hnum:=w8p (ρ:=ρ) fail m (by omega) bs1 (by omega)
     cases hn:rdNum bs1 with
     | error e =>
      rw [hn] at hnum
      obtain⟨he,B,hB⟩:=hnum
      dsimp only at hB
      refine⟨he,4,0,nilE,B,q,fun K=>?_⟩
      try dsimp only
      rw [hb3,hB,geqF (by omega),cond_false,p110_6,p110_5,p110_4,p110_3]
      exact end0 K _ _ B e he
     | ok x =>
      obtain⟨n,bs2⟩:=x
      rw [hn] at hnum
      simp only [KOut] at hnum
      try dsimp only
      by_cases h4:4≤n
      ·rw [if_pos h4]
       refine⟨by omega,4,((n:Nat):Int),nilE,encB bs2,q,fun K=>?_⟩
       try dsimp only
       rw [hb3,hnum,geqT (by omega),cond_true,z3r,p110_6,p110_5,p110_4,p110_3]
       exact end0 K _ _ _ 7 (by omega)
      ·rw [if_neg h4]
       intro K
       try dsimp only
       rw [hb3,hnum,geqF (by omega),cond_false,p110_6,p110_5,p110_4,p110_3,end0' K,hq0]
       rfl
    ·have k0:k=0:=by omega
     subst k0
     rw [if_neg (by omega)]
     exact loop 0 rfl (fun K=>by rw [hb2,eqlF (by omega),cond_false,eqlF (by omega),cond_false,eqlF (by omega),p110_7,cond_false,eqlF (by omega),cond_false,p110_5,p110_4,p110_3];rfl)
def z2l (bs:List UInt8):Except Int (Lv × List UInt8):=match rdLv 32 0 bs with
 | .ok (l,r,_)=>.ok (l,r)
 | .error e=>.error e
def LvO2 {ρ:Type} (p:(Int→Int→EL→EL→Int→ρ)→ρ):Except Int (Lv × List UInt8)→Prop
 | .ok (l,bs)=>∀ K:Int→Int→EL→EL→Int→ρ,p K=K l.k l.n (Lv.rows l.args) (encB bs) 0
 | .error e=>e≠0∧∃ a b c B,∀ K:Int→Int→EL→EL→Int→ρ,p K=K a b c B e
theorem k1h {ρ:Type} (fail:ρ) (fu:Nat) (hf:50≤fu) (bs:List UInt8) (hb:bs.length≤1099511627776):LvO2 (fun K=>p67 fail fu K (encB bs) 0) (z2l bs):=by
 have:=k0t fail 32 fu (by omega) (by omega) bs 0 hb (by omega)
 unfold z2l
 cases h:rdLv 32 0 bs with
 | error e =>
  rw [h] at this
  obtain⟨he,a,b,c,B,q,h1⟩:=this
  dsimp only at h1
  refine⟨he,a,b,c,B,fun K=>?_⟩
  try dsimp only
  rw [p67];exact h1 _
 | ok x =>
  obtain⟨l,r,q⟩:=x
  rw [h] at this
  intro K
  try dsimp only
  rw [p67];exact this _
def p109_1 {ρ:Type} (fail:ρ) (fu:Nat) (s_p109:(Int→Int→ByteArray→EL→EL→EL→Int→Int→ρ)→EL→Int→Int→Int→ρ) (K0:Int→Int→ByteArray→EL→EL→EL→Int→Int→ρ) (rec2:EL→Int→Int→EL→Int→ρ) (x2 y4 j9:Int) (j10:ByteArray) (j11:Int) (z15 z22:EL) (z23 z24:Int) (z25:EL) (z26:Int):ρ :=
 bif (z0a .lss z26 j11) then (bif (z0a .neq z23 0) then (K0 y4 j9 j10 z15 z25 z22 z23 z24) else (s_p109 (fun y27 y28 y29 y30 y31 y32 y33 y34=>gd (1≤[[(CV.v (.int .i64 y27)),(CV.v (.int .i64 y28)),(CV.v (.string y29)),(CV.sl 3 y30 none),(CV.sl 5 y31 none)]].length) fail (gd ((z25.length + (List.take 1 [[(CV.v (.int .i64 y27)),(CV.v (.int .i64 y28)),(CV.v (.string y29)),(CV.sl 3 y30 none),(CV.sl 5 y31 none)]]).length) * 80≤35184372088832) fail (rec2 y32 y33 y34 (z25++(List.take 1 [[(CV.v (.int .i64 y27)),(CV.v (.int .i64 y28)),(CV.v (.string y29)),(CV.sl 3 y30 none),(CV.sl 5 y31 none)]])) (z0d .add .i64 z26 1)))) z22 z23 (z0d .add .i64 x2 1) z24)) else (K0 y4 j9 j10 z15 z25 z22 z23 z24)
def p109_1L {ρ:Type} (fail:ρ) (fu:Nat) (s_p109:(Int→Int→ByteArray→EL→EL→EL→Int→Int→ρ)→EL→Int→Int→Int→ρ) (K0:Int→Int→ByteArray→EL→EL→EL→Int→Int→ρ) (x2 y4 j9:Int) (j10:ByteArray) (j11:Int) (z15:EL):Nat→EL→Int→Int→EL→Int→ρ
 | 0,_,_,_,_,_=>fail
 | n + 1,z22,z23,z24,z25,z26=>p109_1 fail fu s_p109 K0 (p109_1L fail fu s_p109 K0 x2 y4 j9 j10 j11 z15 n) x2 y4 j9 j10 j11 z15 z22 z23 z24 z25 z26
def p109_2 {ρ:Type} (fail:ρ) (fu:Nat) (s_p109:(Int→Int→ByteArray→EL→EL→EL→Int→Int→ρ)→EL→Int→Int→Int→ρ) (K0:Int→Int→ByteArray→EL→EL→EL→Int→Int→ρ) (rec1:EL→Int→EL→Int→ρ) (x2 y3 y4 j9:Int) (j10:ByteArray) (j11 j12:Int) (z13:EL) (z14:Int) (z15:EL) (z16:Int):ρ :=
 bif (z0a .lss z16 j12) then (bif (z0a .neq z14 0) then (K0 y4 j9 j10 z15 nilE z13 z14 y3) else (p67 fail fu (fun y17 y18 y19 y20 y21=>gd (1≤[[(CV.v (.int .i64 y17)),(CV.v (.int .i64 y18)),(CV.sl 3 y19 none)]].length) fail (gd ((z15.length + (List.take 1 [[(CV.v (.int .i64 y17)),(CV.v (.int .i64 y18)),(CV.sl 3 y19 none)]]).length) * 40≤35184372088832) fail (rec1 y20 y21 (z15++(List.take 1 [[(CV.v (.int .i64 y17)),(CV.v (.int .i64 y18)),(CV.sl 3 y19 none)]])) (z0d .add .i64 z16 1)))) z13 z14)) else (p109_1L fail fu s_p109 K0 x2 y4 j9 j10 j11 z15 fu z13 z14 y3 nilE 0)
def p109_2L {ρ:Type} (fail:ρ) (fu:Nat) (s_p109:(Int→Int→ByteArray→EL→EL→EL→Int→Int→ρ)→EL→Int→Int→Int→ρ) (K0:Int→Int→ByteArray→EL→EL→EL→Int→Int→ρ) (x2 y3 y4 j9:Int) (j10:ByteArray) (j11 j12:Int):Nat→EL→Int→EL→Int→ρ
 | 0,_,_,_,_=>fail
 | n + 1,z13,z14,z15,z16=>p109_2 fail fu s_p109 K0 (p109_2L fail fu s_p109 K0 x2 y3 y4 j9 j10 j11 j12 n) x2 y3 y4 j9 j10 j11 j12 z13 z14 z15 z16
def p109_3 {ρ:Type} (fail:ρ) (fu:Nat) (s_p109:(Int→Int→ByteArray→EL→EL→EL→Int→Int→ρ)→EL→Int→Int→Int→ρ) (K0:Int→Int→ByteArray→EL→EL→EL→Int→Int→ρ) (x2 y3 y4:Int) (j7:EL) (j8 j9:Int) (j10:ByteArray) (j11 j12:Int):ρ :=
 p109_2L fail fu s_p109 K0 x2 y3 y4 j9 j10 j11 j12 fu j7 j8 nilE 0
def p109_4 {ρ:Type} (fail:ρ) (fu:Nat) (s_p109:(Int→Int→ByteArray→EL→EL→EL→Int→Int→ρ)→EL→Int→Int→Int→ρ) (K0:Int→Int→ByteArray→EL→EL→EL→Int→Int→ρ) (x2 y3 y4:Int) (j38:EL) (j39:Int) (j40:ByteArray) (j41 j42:Int):ρ :=
 p109_3 fail fu s_p109 K0 x2 y3 y4 j38 j39 0 j40 j41 j42
def p109_5 {ρ:Type} (fail:ρ) (fu:Nat) (s_p109:(Int→Int→ByteArray→EL→EL→EL→Int→Int→ρ)→EL→Int→Int→Int→ρ) (K0:Int→Int→ByteArray→EL→EL→EL→Int→Int→ρ) (x2 y3 y4:Int) (j43:EL) (j44:Int) (j45:ByteArray) (j46 j47:Int):ρ :=
 p109_4 fail fu s_p109 K0 x2 y3 y4 j43 j44 j45 j46 j47
def p109_6 {ρ:Type} (fail:ρ) (fu:Nat) (s_p109:(Int→Int→ByteArray→EL→EL→EL→Int→Int→ρ)→EL→Int→Int→Int→ρ) (K0:Int→Int→ByteArray→EL→EL→EL→Int→Int→ρ) (x2 y3 y4:Int) (s51:ByteArray) (y52:Int) (j55:EL) (j56:Int):ρ :=
 p109_5 fail fu s_p109 K0 x2 y3 y4 j55 j56 s51 0 y52
def p109_7 {ρ:Type} (fail:ρ) (fu:Nat) (s_p109:(Int→Int→ByteArray→EL→EL→EL→Int→Int→ρ)→EL→Int→Int→Int→ρ) (K0:Int→Int→ByteArray→EL→EL→EL→Int→Int→ρ) (x2 y3 y4:Int) (y5:EL) (y6 j59:Int):ρ :=
 p109_5 fail fu s_p109 K0 x2 y3 y4 y5 y6 ⟨#[]⟩ j59 0
def p109_b {ρ:Type} (fail:ρ) (fu:Nat) (s_p109:(Int→Int→ByteArray→EL→EL→EL→Int→Int→ρ)→EL→Int→Int→Int→ρ) (K0:Int→Int→ByteArray→EL→EL→EL→Int→Int→ρ) (x0:EL) (x1 x2 x3:Int):ρ :=
 p137 fail fu (fun y1 y2 y3=>bif (z0a .neq y2 0) then (K0 0 0 ⟨#[]⟩ nilE nilE y1 y2 y3) else (p93 fail fu (fun y4 y5 y6=>bif (z0a .eql y4 0) then (p91 fail fu (fun y35 y36 y37=>p109_3 fail fu s_p109 K0 x2 y3 y4 y36 y37 y35 ⟨#[]⟩ 0 0) y5 y6) else (bif (z0a .eql y4 1) then (p109_4 fail fu s_p109 K0 x2 y3 y4 y5 y6 ⟨#[]⟩ 0 1) else (bif (z0a .eql y4 2) then (p95 fail fu (fun y48 y49 y50=>tobP fail y48 (fun s51=>p91 fail fu (fun y52 y53 y54=>bif (z0a .gtr y52 4) then (p94 fail fu (fun y57 y58=>p109_6 fail fu s_p109 K0 x2 y3 y4 s51 y52 y57 y58) y53 y54 7) else (p109_6 fail fu s_p109 K0 x2 y3 y4 s51 y52 y53 y54)) y49 y50)) y5 y6 24) else (bif (z0a .eql y4 6) then (p109_7 fail fu s_p109 K0 x2 y3 y4 y5 y6 3) else (p109_7 fail fu s_p109 K0 x2 y3 y4 y5 y6 2))))) y1 y2 0 6)) x0 x1 x3 2000 x2 100
def p109 {ρ:Type} (fail:ρ):Nat→(Int→Int→ByteArray→EL→EL→EL→Int→Int→ρ)→EL→Int→Int→Int→ρ
 | 0,_,_,_,_,_=>fail
 | n + 1,K0,x0,x1,x2,x3=>p109_b fail n (p109 fail n) K0 x0 x1 x2 x3
def p65 {ρ:Type} (fail:ρ) (fu:Nat) (K0:Int→Int→ByteArray→EL→EL→EL→Int→ρ) (x0:EL) (x1:Int):ρ :=
 p109 fail fu (fun y1 y2 y3 y4 y5 y6 y7 y8=>K0 y1 y2 y3 y4 y5 y6 y7) x0 x1 1 0
def p66 {ρ:Type} (fail:ρ) (fu:Nat) (K0:Int→Int→EL→Int→ρ) (x0:EL) (x1:Int) (x2:EL):ρ :=
 bif (z0a .neq x1 0) then (K0 0 x1 x0 x1) else (K0 (z0d .sub .i64 ((x2.length:Nat):Int) ((x0.length:Nat):Int)) 0 x0 x1)
def p18 {ρ:Type} (fail:ρ) (fu:Nat) (K0:Int→Int→ByteArray→EL→EL→Int→Int→ρ) (x0:EL):ρ :=
 p65 fail fu (fun y1 y2 y3 y4 y5 y6 y7=>p66 fail fu (fun y8 y9 y10 y11=>bif (z0a .neq y9 0) then (K0 0 0 ⟨#[]⟩ nilE nilE 0 y9) else (K0 y1 y2 y3 y4 y5 y8 0)) y6 y7 x0) x0 0
def D_p109 (fu:Nat):Prop:=∀ {K0:Int→Int→ByteArray→EL→EL→EL→Int→Int→Prop} (L:EL→Nat) (_:L=List.length) {x0:EL} {x1 x2 x3:Int} (_:p109 False fu K0 x0 x1 x2 x3),Den Try.prog G0 109 [.ptr [.c (.sl 1 x0 none),.c (.v (.int .i64 x1))],.c (.v (.int .i64 x2)),.ptr [.c (.v (.int .i64 x3))]] (fun r bs=>(∃ (y0 y1:Int) (y2:ByteArray) (y3 y4 y5:EL) (y6 y7:Int) (o1:OV),(r=.agg [.c (.v (.int .i64 y0)),.c (.v (.int .i64 y1)),.c (.v (.string y2)),.c (.sl 3 y3 none),.c (.sl 5 y4 none)]∧bs=[.ptr [.c (.sl 1 y5 none),.c (.v (.int .i64 y6))],o1,.ptr [.c (.v (.int .i64 y7))]])∧K0 y0 y1 y2 y3 y4 y5 y6 y7))
theorem b_p109 (fu:Nat)(ih_p109:D_p109 fu){K0:Int→Int→ByteArray→EL→EL→EL→Int→Int→Prop}(L:EL→Nat)(hN:L=List.length){x0:EL}{x1 x2 x3:Int}(h:p109_b False fu (p109 False fu) K0 x0 x1 x2 x3):Den Try.prog G0 109 [.ptr [.c (.sl 1 x0 none),.c (.v (.int .i64 x1))],.c (.v (.int .i64 x2)),.ptr [.c (.v (.int .i64 x3))]] (fun r bs=>(∃ (y0 y1:Int) (y2:ByteArray) (y3 y4 y5:EL) (y6 y7:Int) (o1:OV),(r=.agg [.c (.v (.int .i64 y0)),.c (.v (.int .i64 y1)),.c (.v (.string y2)),.c (.sl 3 y3 none),.c (.sl 5 y4 none)]∧bs=[.ptr [.c (.sl 1 y5 none),.c (.v (.int .i64 y6))],o1,.ptr [.c (.v (.int .i64 y7))]])∧K0 y0 y1 y2 y3 y4 y5 y6 y7)):=by
 obtain⟨O,hO⟩:∃ O,O=std 2 T G0 (Den Try.prog G0):=⟨_,rfl⟩
 have hLO:L=O.len:=by rw [hN,hO];rfl
 subst hLO
 refine den_h hO tiA mixed tabOk (fn:=Try.f109) (sh:=true) (by kernel_rfl) rfl rfl rfl rfl ?_
 intro Q b
 unfold p109_b at h
 conv=>cbv
 refine z0c hO [.ref 2,.ref 1,.shut,.shut,.shut] (d_p137 fu O.len hN h) ?_
 intro e Q a b
 conv=>cbv
 refine⟨by subst a hO;rfl,?_⟩
 intro r bs d
 rw [b] at d
 clear a b h
 obtain⟨y1,y2,y3,_,_,_,⟨rfl,rfl⟩,h⟩:=d
 conv=>cbv
 refine br_h hO h (by subst hO;rfl) (fun k1 h=>?_) (fun k1 h=>?_)
 conv=>cbv
 rw [b]
 exact⟨0,0,⟨#[]⟩,nilE,nilE,y1,y2,y3,_,⟨(by subst hO;rfl),(by subst hO;rfl)⟩,h⟩
 conv=>cbv
 refine z0b hO ?_
 conv=>cbv
 refine z0c hO [.ref 2,.shut,.shut] (d_p93 fu O.len hN h) ?_
 intro e Q a b
 conv=>cbv
 refine⟨by subst a hO;rfl,?_⟩
 intro r bs d
 rw [b] at d
 clear a b h
 obtain⟨y4,y5,y6,_,_,⟨rfl,rfl⟩,h⟩:=d
 conv=>cbv
 refine z0f hO tiA h (by subst hO;rfl) [0,1,2,6,7,8,9] [0,1,7000,8000] [] (fun tm m=>∃ (j7:EL) (j8:Int) (j9:Int) (j10:ByteArray) (j11:Int) (j12:Int),((tm=frame 0 84 [(0,.p 0 0 0),(1,.c (.v (.int .i64 x2))),(2,.p 1 1 0),(6,.p 7000 2 0),(7,.p 8000 2 0),(8,.c (.v (.int .i64 j11))),(9,.c (.v (.int .i64 j12)))]∧m=⟨[(0,.blk 0 [.c (.sl 1 j7 none),.c (.v (.int .i64 j8))]),(1,.blk 1 [.c (.v (.int .i64 y3))]),(7000,.blk 2 [.c (.v (.int .i64 0)),.c (.v (.int .i64 0)),.c (.v (.string ⟨#[]⟩)),.c (.sl 3 [] (some [])),.c (.sl 5 [] (some []))]),(8000,.blk 2 [.c (.v (.int .i64 y4)),.c (.v (.int .i64 j9)),.c (.v (.string j10)),.c (.sl 3 [] (some [])),.c (.sl 5 [] (some []))])],3⟩))∧p109_3 False fu (p109 False fu) K0 x2 y3 y4 j7 j8 j9 j10 j11 j12) (fun k6 h L hL_3=>?_) (fun k6 h L hL_3=>?_) ?_
 conv=>cbv
 refine z0c hO [.ref 2] (d_p91 fu O.len hN h) ?_
 intro e Q a b
 conv=>cbv
 refine⟨by subst a hO;rfl,?_⟩
 intro r bs d
 rw [b] at d
 clear a b h
 obtain⟨y35,y36,y37,⟨rfl,rfl⟩,h⟩:=d
 conv=>cbv
 exact hL_3 _ _ ⟨y36,y37,y35,⟨#[]⟩,0,0,⟨(by (conv=>lhs;cbv)<;>(subst hO;rfl)),(by (conv=>lhs;cbv)<;>(subst hO;rfl))⟩,h⟩
 conv=>cbv
 refine z0f hO tiA h (by subst hO;rfl) [0,1,2,6,7,8,9] [0,1,7000,8000] [] (fun tm m=>∃ (j38:EL) (j39:Int) (j40:ByteArray) (j41:Int) (j42:Int),((tm=frame 0 84 [(0,.p 0 0 0),(1,.c (.v (.int .i64 x2))),(2,.p 1 1 0),(6,.p 7000 2 0),(7,.p 8000 2 0),(8,.c (.v (.int .i64 j41))),(9,.c (.v (.int .i64 j42)))]∧m=⟨[(0,.blk 0 [.c (.sl 1 j38 none),.c (.v (.int .i64 j39))]),(1,.blk 1 [.c (.v (.int .i64 y3))]),(7000,.blk 2 [.c (.v (.int .i64 0)),.c (.v (.int .i64 0)),.c (.v (.string ⟨#[]⟩)),.c (.sl 3 [] (some [])),.c (.sl 5 [] (some []))]),(8000,.blk 2 [.c (.v (.int .i64 y4)),.c (.v (.int .i64 0)),.c (.v (.string j40)),.c (.sl 3 [] (some [])),.c (.sl 5 [] (some []))])],3⟩))∧p109_4 False fu (p109 False fu) K0 x2 y3 y4 j38 j39 j40 j41 j42) (fun k7 h L hL_4=>?_) (fun k7 h L hL_4=>?_) ?_
 conv=>cbv
 exact hL_4 _ _ ⟨y5,y6,⟨#[]⟩,0,1,⟨(by (conv=>lhs;cbv)<;>(subst hO;rfl)),(by (conv=>lhs;cbv)<;>(subst hO;rfl))⟩,h⟩
 conv=>cbv
 refine z0f hO tiA h (by subst hO;rfl) [0,1,2,6,7,8,9] [0,1,7000,8000] [] (fun tm m=>∃ (j43:EL) (j44:Int) (j45:ByteArray) (j46:Int) (j47:Int),((tm=frame 0 84 [(0,.p 0 0 0),(1,.c (.v (.int .i64 x2))),(2,.p 1 1 0),(6,.p 7000 2 0),(7,.p 8000 2 0),(8,.c (.v (.int .i64 j46))),(9,.c (.v (.int .i64 j47)))]∧m=⟨[(0,.blk 0 [.c (.sl 1 j43 none),.c (.v (.int .i64 j44))]),(1,.blk 1 [.c (.v (.int .i64 y3))]),(7000,.blk 2 [.c (.v (.int .i64 0)),.c (.v (.int .i64 0)),.c (.v (.string ⟨#[]⟩)),.c (.sl 3 [] (some [])),.c (.sl 5 [] (some []))]),(8000,.blk 2 [.c (.v (.int .i64 y4)),.c (.v (.int .i64 0)),.c (.v (.string j45)),.c (.sl 3 [] (some [])),.c (.sl 5 [] (some []))])],3⟩))∧p109_5 False fu (p109 False fu) K0 x2 y3 y4 j43 j44 j45 j46 j47) (fun k8 h L hL_5=>?_) (fun k8 h L hL_5=>?_) ?_
 conv=>cbv
 refine z0c hO [.ref 2,.shut] (d_p95 fu O.len hN h) ?_
 intro e Q a b
 conv=>cbv
 refine⟨by subst a hO;rfl,?_⟩
 intro r bs d
 rw [b] at d
 clear a b h
 obtain⟨y48,y49,y50,_,⟨rfl,rfl⟩,h⟩:=d
 conv=>cbv
 refine tob_h hO h (by subst hO;rfl) (fun s51 h=>?_)
 conv=>cbv
 refine z0c hO [.ref 2] (d_p91 fu O.len hN h) ?_
 intro e Q a b
 conv=>cbv
 refine⟨by subst a hO;rfl,?_⟩
 intro r bs d
 rw [b] at d
 clear a b h
 obtain⟨y52,y53,y54,⟨rfl,rfl⟩,h⟩:=d
 conv=>cbv
 refine z0f hO tiA h (by subst hO;rfl) [0,1,2,6,7,8,9] [0,1,7000,8000] [] (fun tm m=>∃ (j55:EL) (j56:Int),((tm=frame 0 84 [(0,.p 0 0 0),(1,.c (.v (.int .i64 x2))),(2,.p 1 1 0),(6,.p 7000 2 0),(7,.p 8000 2 0),(8,.c (.v (.int .i64 0))),(9,.c (.v (.int .i64 y52)))]∧m=⟨[(0,.blk 0 [.c (.sl 1 j55 none),.c (.v (.int .i64 j56))]),(1,.blk 1 [.c (.v (.int .i64 y3))]),(7000,.blk 2 [.c (.v (.int .i64 0)),.c (.v (.int .i64 0)),.c (.v (.string ⟨#[]⟩)),.c (.sl 3 [] (some [])),.c (.sl 5 [] (some []))]),(8000,.blk 2 [.c (.v (.int .i64 y4)),.c (.v (.int .i64 0)),.c (.v (.string s51)),.c (.sl 3 [] (some [])),.c (.sl 5 [] (some []))])],3⟩))∧p109_6 False fu (p109 False fu) K0 x2 y3 y4 s51 y52 j55 j56) (fun k9 h L hL_6=>?_) (fun k9 h L hL_6=>?_) ?_
 conv=>cbv
 refine z0c hO [.ref 2,.shut] (d_p94 fu O.len hN h) ?_
 intro e Q a b
 conv=>cbv
 refine⟨by subst a hO;rfl,?_⟩
 intro r bs d
 rw [b] at d
 clear a b h
 obtain⟨y57,y58,_,⟨rfl,rfl⟩,h⟩:=d
 conv=>cbv
 exact hL_6 _ _ ⟨y57,y58,⟨(by (conv=>lhs;cbv)<;>(subst hO;rfl)),(by (conv=>lhs;cbv)<;>(subst hO;rfl))⟩,h⟩
 conv=>cbv
 exact hL_6 _ _ ⟨y53,y54,⟨(by (conv=>lhs;cbv)<;>(subst hO;rfl)),(by (conv=>lhs;cbv)<;>(subst hO;rfl))⟩,h⟩
 rintro tm m ⟨j55,j56,hs,h⟩
 unfold p109_6 at h
 obtain⟨rfl,rfl⟩:=hs
 conv=>cbv
 exact hL_5 _ _ ⟨j55,j56,s51,0,y52,⟨(by (conv=>lhs;cbv)<;>(subst hO;rfl)),(by (conv=>lhs;cbv)<;>(subst hO;rfl))⟩,h⟩
 conv=>cbv
 refine z0f hO tiA h (by subst hO;rfl) [0,1,2,6,7,8,9] [0,1,7000,8000] [] (fun tm m=>∃ (j59:Int),((tm=frame 0 84 [(0,.p 0 0 0),(1,.c (.v (.int .i64 x2))),(2,.p 1 1 0),(6,.p 7000 2 0),(7,.p 8000 2 0),(8,.c (.v (.int .i64 j59))),(9,.c (.v (.int .i64 0)))]∧m=⟨[(0,.blk 0 [.c (.sl 1 y5 none),.c (.v (.int .i64 y6))]),(1,.blk 1 [.c (.v (.int .i64 y3))]),(7000,.blk 2 [.c (.v (.int .i64 0)),.c (.v (.int .i64 0)),.c (.v (.string ⟨#[]⟩)),.c (.sl 3 [] (some [])),.c (.sl 5 [] (some []))]),(8000,.blk 2 [.c (.v (.int .i64 y4)),.c (.v (.int .i64 0)),.c (.v (.string ⟨#[]⟩)),.c (.sl 3 [] (some [])),.c (.sl 5 [] (some []))])],3⟩))∧p109_7 False fu (p109 False fu) K0 x2 y3 y4 y5 y6 j59) (fun k10 h L hL_7=>?_) (fun k10 h L hL_7=>?_) ?_
 conv=>cbv
 exact hL_7 _ _ ⟨3,⟨(by (conv=>lhs;cbv)<;>(subst hO;rfl)),(by (conv=>lhs;cbv)<;>(subst hO;rfl))⟩,h⟩
 conv=>cbv
 exact hL_7 _ _ ⟨2,⟨(by (conv=>lhs;cbv)<;>(subst hO;rfl)),(by (conv=>lhs;cbv)<;>(subst hO;rfl))⟩,h⟩
 rintro tm m ⟨j59,hs,h⟩
 unfold p109_7 at h
 obtain⟨rfl,rfl⟩:=hs
 conv=>cbv
 exact hL_5 _ _ ⟨y5,y6,⟨#[]⟩,j59,0,⟨(by (conv=>lhs;cbv)<;>(subst hO;rfl)),(by (conv=>lhs;cbv)<;>(subst hO;rfl))⟩,h⟩
 rintro tm m ⟨j43,j44,j45,j46,j47,hs,h⟩
 unfold p109_5 at h
 obtain⟨rfl,rfl⟩:=hs
 conv=>cbv
 exact hL_4 _ _ ⟨j43,j44,j45,j46,j47,⟨(by (conv=>lhs;cbv)<;>(subst hO;rfl)),(by (conv=>lhs;cbv)<;>(subst hO;rfl))⟩,h⟩
 rintro tm m ⟨j38,j39,j40,j41,j42,hs,h⟩
 unfold p109_4 at h
 obtain⟨rfl,rfl⟩:=hs
 conv=>cbv
 exact hL_3 _ _ ⟨j38,j39,0,j40,j41,j42,⟨(by (conv=>lhs;cbv)<;>(subst hO;rfl)),(by (conv=>lhs;cbv)<;>(subst hO;rfl))⟩,h⟩
 rintro tm m ⟨j7,j8,j9,j10,j11,j12,hs,h⟩
 unfold p109_3 at h
 obtain⟨rfl,rfl⟩:=hs
 conv=>cbv
 refine z0r hO tiA [0,1,2,6,7,8,46,47] [0,1,7000,8000,61000] [] (fun (n:Nat) tm m=>∃ (z13:EL) (z14:Int) (z15:EL) (z16:Int),((z15=[]∧tm=frame 0 84 [(0,.p 0 0 0),(1,.c (.v (.int .i64 x2))),(2,.p 1 1 0),(6,.p 7000 2 0),(7,.p 8000 2 0),(8,.c (.v (.int .i64 j11))),(46,.c (.v (.int .i64 j12))),(47,.c (.v (.int .i64 z16)))]∧m=⟨[(0,.blk 0 [.c (.sl 1 z13 none),.c (.v (.int .i64 z14))]),(1,.blk 1 [.c (.v (.int .i64 y3))]),(7000,.blk 2 [.c (.v (.int .i64 0)),.c (.v (.int .i64 0)),.c (.v (.string ⟨#[]⟩)),.c (.sl 3 [] (some [])),.c (.sl 5 [] (some []))]),(8000,.blk 2 [.c (.v (.int .i64 y4)),.c (.v (.int .i64 j9)),.c (.v (.string j10)),.c (.sl 3 [] (some [])),.c (.sl 5 [] (some []))])],3⟩)∨(tm=frame 0 84 [(0,.p 0 0 0),(1,.c (.v (.int .i64 x2))),(2,.p 1 1 0),(6,.p 7000 2 0),(7,.p 8000 2 0),(8,.c (.v (.int .i64 j11))),(46,.c (.v (.int .i64 j12))),(47,.c (.v (.int .i64 z16)))]∧m=⟨[(0,.blk 0 [.c (.sl 1 z13 none),.c (.v (.int .i64 z14))]),(1,.blk 1 [.c (.v (.int .i64 y3))]),(7000,.blk 2 [.c (.v (.int .i64 0)),.c (.v (.int .i64 0)),.c (.v (.string ⟨#[]⟩)),.c (.sl 3 [] (some [])),.c (.sl 5 [] (some []))]),(8000,.blk 2 [.c (.v (.int .i64 y4)),.c (.v (.int .i64 j9)),.c (.v (.string j10)),.t 61000 2 (O.len z15),.c (.sl 5 [] (some []))]),(61000,.arr 2 3 z15 none false)],3⟩))∧p109_2L False fu (p109 False fu) K0 x2 y3 y4 j9 j10 j11 j12 n z13 z14 z15 z16) (fun n=>n) fu ⟨j7,j8,nilE,0,(.inl ⟨rfl,(by (conv=>lhs;cbv)<;>(subst hO;rfl)),(by (conv=>lhs;cbv)<;>(subst hO;rfl))⟩),h⟩ ?_
 rintro n1 tm m L ⟨z13,z14,z15,z16,hs,h⟩ hLn1
 (cases n1 with
 | zero=>rw [p109_2L] at h;exact h.elim
 | succ n1 =>
 rw [p109_2L] at h
 unfold p109_2 at h
 rcases hs with hs | hs
 obtain⟨rfl,rfl,rfl⟩:=hs
 conv=>cbv
 refine br_h hO h (by subst hO;rfl) (fun k2 h=>?_) (fun k2 h=>?_)
 conv=>cbv
 refine z0b hO ?_
 conv=>cbv
 refine br_h hO h (by subst hO;rfl) (fun k3 h=>?_) (fun k3 h=>?_)
 conv=>cbv
 rw [b]
 exact⟨y4,j9,j10,nilE,nilE,z13,z14,y3,_,⟨(by subst hO;rfl),(by subst hO;rfl)⟩,h⟩
 conv=>cbv
 refine z0b hO ?_
 conv=>cbv
 refine z0h hO tiA [[0],[],[],[],[]] [(0,true,false),(1,true,false),(2,true,false),(3,false,false),(4,false,false),(5,false,true),(6,true,true),(7,false,true)] (by kernel_rfl) ?_
 conv=>cbv
 refine z0c hO [.ref 2] (d_p67 fu O.len hN h) ?_
 intro e Q a b
 conv=>cbv
 refine⟨by subst a hO;rfl,?_⟩
 intro r bs d
 rw [b] at d
 clear a b h
 obtain⟨y17,y18,y19,y20,y21,⟨rfl,rfl⟩,h⟩:=d
 conv=>cbv
 refine agr hO rfl rfl ?_
 refine agr hO rfl rfl ?_
 refine z0t hO h (fun g=>(by subst hO;exact g)) (fun h=>?_)
 conv=>cbv
 refine and_h h (fun g=>(by subst hO;exact g)) (fun h=>?_)
 refine z4g hO (by subst hO;exact List.cons_ne_nil _ _) ?_
 conv=>cbv
 refine z0b hO ?_
 conv=>cbv
 exact hLn1 n1 _ _ (Nat.lt_succ_self n1) ⟨y20,y21,(nilE++(List.take 1 [[(CV.v (.int .i64 y17)),(CV.v (.int .i64 y18)),(CV.sl 3 y19 none)]])),z0d .add .i64 z16 1,(.inr ⟨(by (conv=>lhs;cbv)<;>(subst hO;rfl)),(by (conv=>lhs;cbv)<;>(subst hO;rfl))⟩),h⟩
 conv=>cbv
 refine z0r hO tiA [0,1,2,6,7,63,64] [0,1,7000,8000,81000] [] (fun (n:Nat) tm m=>∃ (z22:EL) (z23:Int) (z24:Int) (z25:EL) (z26:Int),((z25=[]∧tm=frame 0 84 [(0,.p 0 0 0),(1,.c (.v (.int .i64 x2))),(2,.p 1 1 0),(6,.p 7000 2 0),(7,.p 8000 2 0),(63,.c (.v (.int .i64 j11))),(64,.c (.v (.int .i64 z26)))]∧m=⟨[(0,.blk 0 [.c (.sl 1 z22 none),.c (.v (.int .i64 z23))]),(1,.blk 1 [.c (.v (.int .i64 z24))]),(7000,.blk 2 [.c (.v (.int .i64 0)),.c (.v (.int .i64 0)),.c (.v (.string ⟨#[]⟩)),.c (.sl 3 [] (some [])),.c (.sl 5 [] (some []))]),(8000,.blk 2 [.c (.v (.int .i64 y4)),.c (.v (.int .i64 j9)),.c (.v (.string j10)),.c (.sl 3 [] (some [])),.c (.sl 5 [] (some []))])],3⟩)∨(tm=frame 0 84 [(0,.p 0 0 0),(1,.c (.v (.int .i64 x2))),(2,.p 1 1 0),(6,.p 7000 2 0),(7,.p 8000 2 0),(63,.c (.v (.int .i64 j11))),(64,.c (.v (.int .i64 z26)))]∧m=⟨[(0,.blk 0 [.c (.sl 1 z22 none),.c (.v (.int .i64 z23))]),(1,.blk 1 [.c (.v (.int .i64 z24))]),(7000,.blk 2 [.c (.v (.int .i64 0)),.c (.v (.int .i64 0)),.c (.v (.string ⟨#[]⟩)),.c (.sl 3 [] (some [])),.c (.sl 5 [] (some []))]),(8000,.blk 2 [.c (.v (.int .i64 y4)),.c (.v (.int .i64 j9)),.c (.v (.string j10)),.c (.sl 3 [] (some [])),.t 81000 2 (O.len z25)]),(81000,.arr 2 5 z25 none false)],3⟩))∧p109_1L False fu (p109 False fu) K0 x2 y4 j9 j10 j11 nilE n z22 z23 z24 z25 z26) (fun n=>n) fu ⟨z13,z14,y3,nilE,0,(.inl ⟨rfl,(by (conv=>lhs;cbv)<;>(subst hO;rfl)),(by (conv=>lhs;cbv)<;>(subst hO;rfl))⟩),h⟩ ?_
 rintro n2 tm m L ⟨z22,z23,z24,z25,z26,hs,h⟩ hLn2
 (cases n2 with
 | zero=>rw [p109_1L] at h;exact h.elim
 | succ n2 =>
 rw [p109_1L] at h
 unfold p109_1 at h
 rcases hs with hs | hs
 obtain⟨rfl,rfl,rfl⟩:=hs
 conv=>cbv
 refine br_h hO h (by subst hO;rfl) (fun k4 h=>?_) (fun k4 h=>?_)
 conv=>cbv
 refine z0b hO ?_
 conv=>cbv
 refine br_h hO h (by subst hO;rfl) (fun k5 h=>?_) (fun k5 h=>?_)
 conv=>cbv
 rw [b]
 exact⟨y4,j9,j10,nilE,nilE,z22,z23,z24,_,⟨(by subst hO;rfl),(by subst hO;rfl)⟩,h⟩
 conv=>cbv
 refine z0b hO ?_
 conv=>cbv
 refine z0h hO tiA [[0,1],[],[],[],[]] [(0,true,false),(1,true,false),(2,true,false),(3,true,false),(4,true,false),(5,true,false),(6,false,false),(7,false,false),(8,false,true),(9,true,true),(10,false,true)] (by kernel_rfl) ?_
 conv=>cbv
 refine z0c hO [.ref 2,.shut,.ref 1] (ih_p109 O.len hN h) ?_
 intro e Q a b
 conv=>cbv
 refine⟨by subst a hO;rfl,?_⟩
 intro r bs d
 rw [b] at d
 clear a b h
 obtain⟨y27,y28,y29,y30,y31,y32,y33,y34,_,⟨rfl,rfl⟩,h⟩:=d
 conv=>cbv
 refine agr hO rfl rfl ?_
 refine agr hO rfl rfl ?_
 refine z0t hO h (fun g=>(by subst hO;exact g)) (fun h=>?_)
 conv=>cbv
 refine and_h h (fun g=>(by subst hO;exact g)) (fun h=>?_)
 refine z4g hO (by subst hO;exact List.cons_ne_nil _ _) ?_
 conv=>cbv
 refine z0b hO ?_
 conv=>cbv
 exact hLn2 n2 _ _ (Nat.lt_succ_self n2) ⟨y32,y33,y34,(nilE++(List.take 1 [[(CV.v (.int .i64 y27)),(CV.v (.int .i64 y28)),(CV.v (.string y29)),(CV.sl 3 y30 none),(CV.sl 5 y31 none)]])),z0d .add .i64 z26 1,(.inr ⟨(by (conv=>lhs;cbv)<;>(subst hO;rfl)),(by (conv=>lhs;cbv)<;>(subst hO;rfl))⟩),h⟩
 conv=>cbv
 rw [b]
 exact⟨y4,j9,j10,nilE,nilE,z22,z23,z24,_,⟨(by subst hO;rfl),(by subst hO;rfl)⟩,h⟩
 obtain⟨rfl,rfl⟩:=hs
 conv=>cbv
 refine br_h hO h (by subst hO;rfl) (fun k4 h=>?_) (fun k4 h=>?_)
 conv=>cbv
 refine z0b hO ?_
 conv=>cbv
 refine br_h hO h (by subst hO;rfl) (fun k5 h=>?_) (fun k5 h=>?_)
 conv=>cbv
 refine z0o hO ?_
 conv=>cbv
 rw [b]
 exact⟨y4,j9,j10,nilE,z25,z22,z23,z24,_,⟨(by subst hO;rfl),(by subst hO;rfl)⟩,h⟩
 conv=>cbv
 refine z0b hO ?_
 conv=>cbv
 refine z0h hO tiA [[0,1],[],[],[],[]] [(0,true,false),(1,true,false),(2,true,false),(3,true,false),(4,true,false),(5,true,false),(6,false,false),(7,false,false),(8,false,true),(9,true,true),(10,false,true)] (by kernel_rfl) ?_
 conv=>cbv
 refine z0c hO [.ref 2,.shut,.ref 1] (ih_p109 O.len hN h) ?_
 intro e Q a b
 conv=>cbv
 refine⟨by subst a hO;rfl,?_⟩
 intro r bs d
 rw [b] at d
 clear a b h
 obtain⟨y27,y28,y29,y30,y31,y32,y33,y34,_,⟨rfl,rfl⟩,h⟩:=d
 conv=>cbv
 refine agr hO rfl rfl ?_
 refine agr hO rfl rfl ?_
 refine z0t hO h (fun g=>(by subst hO;exact g)) (fun h=>?_)
 conv=>cbv
 refine⟨(by subst hO;rfl),?_⟩
 refine and_h h (fun g=>(by subst hO;exact g)) (fun h=>?_)
 refine z0b hO ?_
 conv=>cbv
 exact hLn2 n2 _ _ (Nat.lt_succ_self n2) ⟨y32,y33,y34,(z25++(List.take 1 [[(CV.v (.int .i64 y27)),(CV.v (.int .i64 y28)),(CV.v (.string y29)),(CV.sl 3 y30 none),(CV.sl 5 y31 none)]])),z0d .add .i64 z26 1,(.inr ⟨(by (conv=>lhs;cbv)<;>(subst hO;rfl)),(by (conv=>lhs;cbv)<;>(subst hO;rfl))⟩),h⟩
 conv=>cbv
 refine z0o hO ?_
 conv=>cbv
 rw [b]
 exact⟨y4,j9,j10,nilE,z25,z22,z23,z24,_,⟨(by subst hO;rfl),(by subst hO;rfl)⟩,h⟩)
 obtain⟨rfl,rfl⟩:=hs
 conv=>cbv
 refine br_h hO h (by subst hO;rfl) (fun k2 h=>?_) (fun k2 h=>?_)
 conv=>cbv
 refine z0b hO ?_
 conv=>cbv
 refine br_h hO h (by subst hO;rfl) (fun k3 h=>?_) (fun k3 h=>?_)
 conv=>cbv
 refine z0o hO ?_
 conv=>cbv
 rw [b]
 exact⟨y4,j9,j10,z15,nilE,z13,z14,y3,_,⟨(by subst hO;rfl),(by subst hO;rfl)⟩,h⟩
 conv=>cbv
 refine z0b hO ?_
 conv=>cbv
 refine z0h hO tiA [[0],[],[],[],[]] [(0,true,false),(1,true,false),(2,true,false),(3,false,false),(4,false,false),(5,false,true),(6,true,true),(7,false,true)] (by kernel_rfl) ?_
 conv=>cbv
 refine z0c hO [.ref 2] (d_p67 fu O.len hN h) ?_
 intro e Q a b
 conv=>cbv
 refine⟨by subst a hO;rfl,?_⟩
 intro r bs d
 rw [b] at d
 clear a b h
 obtain⟨y17,y18,y19,y20,y21,⟨rfl,rfl⟩,h⟩:=d
 conv=>cbv
 refine agr hO rfl rfl ?_
 refine agr hO rfl rfl ?_
 refine z0t hO h (fun g=>(by subst hO;exact g)) (fun h=>?_)
 conv=>cbv
 refine⟨(by subst hO;rfl),?_⟩
 refine and_h h (fun g=>(by subst hO;exact g)) (fun h=>?_)
 refine z0b hO ?_
 conv=>cbv
 exact hLn1 n1 _ _ (Nat.lt_succ_self n1) ⟨y20,y21,(z15++(List.take 1 [[(CV.v (.int .i64 y17)),(CV.v (.int .i64 y18)),(CV.sl 3 y19 none)]])),z0d .add .i64 z16 1,(.inr ⟨(by (conv=>lhs;cbv)<;>(subst hO;rfl)),(by (conv=>lhs;cbv)<;>(subst hO;rfl))⟩),h⟩
 conv=>cbv
 refine z0r hO tiA [0,1,2,6,7,63,64] [0,1,7000,8000,61000,81000] [] (fun (n:Nat) tm m=>∃ (z22:EL) (z23:Int) (z24:Int) (z25:EL) (z26:Int),((z25=[]∧tm=frame 0 84 [(0,.p 0 0 0),(1,.c (.v (.int .i64 x2))),(2,.p 1 1 0),(6,.p 7000 2 0),(7,.p 8000 2 0),(63,.c (.v (.int .i64 j11))),(64,.c (.v (.int .i64 z26)))]∧m=⟨[(0,.blk 0 [.c (.sl 1 z22 none),.c (.v (.int .i64 z23))]),(1,.blk 1 [.c (.v (.int .i64 z24))]),(7000,.blk 2 [.c (.v (.int .i64 0)),.c (.v (.int .i64 0)),.c (.v (.string ⟨#[]⟩)),.c (.sl 3 [] (some [])),.c (.sl 5 [] (some []))]),(8000,.blk 2 [.c (.v (.int .i64 y4)),.c (.v (.int .i64 j9)),.c (.v (.string j10)),.t 61000 2 (O.len z15),.c (.sl 5 [] (some []))]),(61000,.arr 2 3 z15 none false)],3⟩)∨(tm=frame 0 84 [(0,.p 0 0 0),(1,.c (.v (.int .i64 x2))),(2,.p 1 1 0),(6,.p 7000 2 0),(7,.p 8000 2 0),(63,.c (.v (.int .i64 j11))),(64,.c (.v (.int .i64 z26)))]∧m=⟨[(0,.blk 0 [.c (.sl 1 z22 none),.c (.v (.int .i64 z23))]),(1,.blk 1 [.c (.v (.int .i64 z24))]),(7000,.blk 2 [.c (.v (.int .i64 0)),.c (.v (.int .i64 0)),.c (.v (.string ⟨#[]⟩)),.c (.sl 3 [] (some [])),.c (.sl 5 [] (some []))]),(8000,.blk 2 [.c (.v (.int .i64 y4)),.c (.v (.int .i64 j9)),.c (.v (.string j10)),.t 61000 2 (O.len z15),.t 81000 2 (O.len z25)]),(61000,.arr 2 3 z15 none false),(81000,.arr 2 5 z25 none false)],3⟩))∧p109_1L False fu (p109 False fu) K0 x2 y4 j9 j10 j11 z15 n z22 z23 z24 z25 z26) (fun n=>n) fu ⟨z13,z14,y3,nilE,0,(.inl ⟨rfl,(by (conv=>lhs;cbv)<;>(subst hO;rfl)),(by (conv=>lhs;cbv)<;>(subst hO;rfl))⟩),h⟩ ?_
 rintro n2 tm m L ⟨z22,z23,z24,z25,z26,hs,h⟩ hLn2
 (cases n2 with
 | zero=>rw [p109_1L] at h;exact h.elim
 | succ n2 =>
 rw [p109_1L] at h
 unfold p109_1 at h
 rcases hs with hs | hs
 obtain⟨rfl,rfl,rfl⟩:=hs
 conv=>cbv
 refine br_h hO h (by subst hO;rfl) (fun k4 h=>?_) (fun k4 h=>?_)
 conv=>cbv
 refine z0b hO ?_
 conv=>cbv
 refine br_h hO h (by subst hO;rfl) (fun k5 h=>?_) (fun k5 h=>?_)
 conv=>cbv
 refine z0o hO ?_
 conv=>cbv
 rw [b]
 exact⟨y4,j9,j10,z15,nilE,z22,z23,z24,_,⟨(by subst hO;rfl),(by subst hO;rfl)⟩,h⟩
 conv=>cbv
 refine z0b hO ?_
 conv=>cbv
 refine z0h hO tiA [[0,1],[],[],[],[]] [(0,true,false),(1,true,false),(2,true,false),(3,true,false),(4,true,false),(5,true,false),(6,false,false),(7,false,false),(8,false,true),(9,true,true),(10,false,true)] (by kernel_rfl) ?_
 conv=>cbv
 refine z0c hO [.ref 2,.shut,.ref 1] (ih_p109 O.len hN h) ?_
 intro e Q a b
 conv=>cbv
 refine⟨by subst a hO;rfl,?_⟩
 intro r bs d
 rw [b] at d
 clear a b h
 obtain⟨y27,y28,y29,y30,y31,y32,y33,y34,_,⟨rfl,rfl⟩,h⟩:=d
 conv=>cbv
 refine agr hO rfl rfl ?_
 refine agr hO rfl rfl ?_
 refine z0t hO h (fun g=>(by subst hO;exact g)) (fun h=>?_)
 conv=>cbv
 refine and_h h (fun g=>(by subst hO;exact g)) (fun h=>?_)
 refine z4g hO (by subst hO;exact List.cons_ne_nil _ _) ?_
 conv=>cbv
 refine z0b hO ?_
 conv=>cbv
 exact hLn2 n2 _ _ (Nat.lt_succ_self n2) ⟨y32,y33,y34,(nilE++(List.take 1 [[(CV.v (.int .i64 y27)),(CV.v (.int .i64 y28)),(CV.v (.string y29)),(CV.sl 3 y30 none),(CV.sl 5 y31 none)]])),z0d .add .i64 z26 1,(.inr ⟨(by (conv=>lhs;cbv)<;>(subst hO;rfl)),(by (conv=>lhs;cbv)<;>(subst hO;rfl))⟩),h⟩
 conv=>cbv
 refine z0o hO ?_
 conv=>cbv
 rw [b]
 exact⟨y4,j9,j10,z15,nilE,z22,z23,z24,_,⟨(by subst hO;rfl),(by subst hO;rfl)⟩,h⟩
 obtain⟨rfl,rfl⟩:=hs
 conv=>cbv
 refine br_h hO h (by subst hO;rfl) (fun k4 h=>?_) (fun k4 h=>?_)
 conv=>cbv
 refine z0b hO ?_
 conv=>cbv
 refine br_h hO h (by subst hO;rfl) (fun k5 h=>?_) (fun k5 h=>?_)
 conv=>cbv
 refine z0o hO ?_
 conv=>cbv
 refine z0o hO ?_
 conv=>cbv
 rw [b]
 exact⟨y4,j9,j10,z15,z25,z22,z23,z24,_,⟨(by subst hO;rfl),(by subst hO;rfl)⟩,h⟩
 conv=>cbv
 refine z0b hO ?_
 conv=>cbv
 refine z0h hO tiA [[0,1],[],[],[],[]] [(0,true,false),(1,true,false),(2,true,false),(3,true,false),(4,true,false),(5,true,false),(6,false,false),(7,false,false),(8,false,true),(9,true,true),(10,false,true)] (by kernel_rfl) ?_
 conv=>cbv
 refine z0c hO [.ref 2,.shut,.ref 1] (ih_p109 O.len hN h) ?_
 intro e Q a b
 conv=>cbv
 refine⟨by subst a hO;rfl,?_⟩
 intro r bs d
 rw [b] at d
 clear a b h
 obtain⟨y27,y28,y29,y30,y31,y32,y33,y34,_,⟨rfl,rfl⟩,h⟩:=d
 conv=>cbv
 refine agr hO rfl rfl ?_
 refine agr hO rfl rfl ?_
 refine z0t hO h (fun g=>(by subst hO;exact g)) (fun h=>?_)
 conv=>cbv
 refine⟨(by subst hO;rfl),?_⟩
 refine and_h h (fun g=>(by subst hO;exact g)) (fun h=>?_)
 refine z0b hO ?_
 conv=>cbv
 exact hLn2 n2 _ _ (Nat.lt_succ_self n2) ⟨y32,y33,y34,(z25++(List.take 1 [[(CV.v (.int .i64 y27)),(CV.v (.int .i64 y28)),(CV.v (.string y29)),(CV.sl 3 y30 none),(CV.sl 5 y31 none)]])),z0d .add .i64 z26 1,(.inr ⟨(by (conv=>lhs;cbv)<;>(subst hO;rfl)),(by (conv=>lhs;cbv)<;>(subst hO;rfl))⟩),h⟩
 conv=>cbv
 refine z0o hO ?_
 conv=>cbv
 refine z0o hO ?_
 conv=>cbv
 rw [b]
 exact⟨y4,j9,j10,z15,z25,z22,z23,z24,_,⟨(by subst hO;rfl),(by subst hO;rfl)⟩,h⟩))
theorem dd_p109 (fu:Nat):D_p109 fu:=by
 induction fu with
 | zero=>unfold D_p109;intros;rename_i h;rw [p109] at h;exact h.elim
 | succ n ih =>
  exact (by unfold D_p109;intro K0 L hN x0 x1 x2 x3 h;exact b_p109 n ih L hN (by rw [p109] at h;exact h))
theorem d_p109 (fu:Nat):D_p109 fu:=dd_p109 fu
theorem d_p65 (fu:Nat){K0:Int→Int→ByteArray→EL→EL→EL→Int→Prop}(L:EL→Nat)(hN:L=List.length){x0:EL}{x1:Int}(h:p65 False fu K0 x0 x1):Den Try.prog G0 65 [.ptr [.c (.sl 1 x0 none),.c (.v (.int .i64 x1))]] (fun r bs=>(∃ (y0 y1:Int) (y2:ByteArray) (y3 y4 y5:EL) (y6:Int),(r=.agg [.c (.v (.int .i64 y0)),.c (.v (.int .i64 y1)),.c (.v (.string y2)),.c (.sl 3 y3 none),.c (.sl 5 y4 none)]∧bs=[.ptr [.c (.sl 1 y5 none),.c (.v (.int .i64 y6))]])∧K0 y0 y1 y2 y3 y4 y5 y6)):=by
 obtain⟨O,hO⟩:∃ O,O=std 1 T G0 (Den Try.prog G0):=⟨_,rfl⟩
 have hLO:L=O.len:=by rw [hN,hO];rfl
 subst hLO
 refine den_h hO tiA mixed tabOk (fn:=Try.f65) (sh:=true) (by kernel_rfl) rfl rfl rfl rfl ?_
 intro Q b
 unfold p65 at h
 conv=>cbv
 refine z0c hO [.ref 2,.shut,.ref 1] (d_p109 fu O.len hN h) ?_
 intro e Q a b
 conv=>cbv
 refine⟨by subst a hO;rfl,?_⟩
 intro r bs d
 rw [b] at d
 clear a b h
 obtain⟨y1,y2,y3,y4,y5,y6,y7,y8,_,⟨rfl,rfl⟩,h⟩:=d
 conv=>cbv
 rw [b]
 exact⟨y1,y2,y3,y4,y5,y6,y7,⟨(by subst hO;rfl),(by subst hO;rfl)⟩,h⟩
theorem d_p66 (fu:Nat){K0:Int→Int→EL→Int→Prop}(L:EL→Nat)(hN:L=List.length){x0:EL}{x1:Int}{x2:EL}(h:p66 False fu K0 x0 x1 x2):Den Try.prog G0 66 [.ptr [.c (.sl 1 x0 none),.c (.v (.int .i64 x1))],.c (.sl 1 x2 none)] (fun r bs=>(∃ (y0 y1:Int) (y2:EL) (y3:Int) (o1:OV),(r=.tup [.c (.v (.int .i64 y0)),.c (.v (.int .i64 y1))]∧bs=[.ptr [.c (.sl 1 y2 none),.c (.v (.int .i64 y3))],o1])∧K0 y0 y1 y2 y3)):=by
 obtain⟨O,hO⟩:∃ O,O=std 1 T G0 (Den Try.prog G0):=⟨_,rfl⟩
 have hLO:L=O.len:=by rw [hN,hO];rfl
 subst hLO
 refine den_h hO tiA mixed tabOk (fn:=Try.f66) (sh:=true) (by kernel_rfl) rfl rfl rfl rfl ?_
 intro Q b
 unfold p66 at h
 conv=>cbv
 refine br_h hO h (by subst hO;rfl) (fun k1 h=>?_) (fun k1 h=>?_)
 conv=>cbv
 refine z0h hO tiA [[]] [(0,true,false),(1,true,false),(2,true,false),(3,true,false),(4,true,false),(5,true,true)] (by kernel_rfl) ?_
 conv=>cbv
 refine z0b hO ?_
 conv=>cbv
 rw [b]
 exact⟨0,x1,x0,x1,_,⟨(by subst hO;rfl),(by subst hO;rfl)⟩,h⟩
 conv=>cbv
 refine z0b hO ?_
 conv=>cbv
 rw [b]
 exact⟨z0d .sub .i64 ((x2.length:Nat):Int) ((x0.length:Nat):Int),0,x0,x1,_,⟨(by subst hO;rfl),(by subst hO;rfl)⟩,h⟩
theorem d_p18 (fu:Nat){K0:Int→Int→ByteArray→EL→EL→Int→Int→Prop}(L:EL→Nat)(hN:L=List.length){x0:EL}(h:p18 False fu K0 x0):Den Try.prog G0 18 [.c (.sl 1 x0 none)] (fun r bs=>(∃ (y0 y1:Int) (y2:ByteArray) (y3 y4:EL) (y5 y6:Int) (o0:OV),(r=.tup [.agg [.c (.v (.int .i64 y0)),.c (.v (.int .i64 y1)),.c (.v (.string y2)),.c (.sl 3 y3 none),.c (.sl 5 y4 none)],.c (.v (.int .i64 y5)),.c (.v (.int .i64 y6))]∧bs=[o0])∧K0 y0 y1 y2 y3 y4 y5 y6)):=by
 obtain⟨O,hO⟩:∃ O,O=std 0 T G0 (Den Try.prog G0):=⟨_,rfl⟩
 have hLO:L=O.len:=by rw [hN,hO];rfl
 subst hLO
 refine den_h hO tiA mixed tabOk (fn:=Try.f18) (sh:=true) (by kernel_rfl) rfl rfl rfl rfl ?_
 intro Q b
 unfold p18 at h
 conv=>cbv
 refine z0c hO [.ref 2] (d_p65 fu O.len hN h) ?_
 intro e Q a b
 conv=>cbv
 refine⟨by subst a hO;rfl,?_⟩
 intro r bs d
 rw [b] at d
 clear a b h
 obtain⟨y1,y2,y3,y4,y5,y6,y7,⟨rfl,rfl⟩,h⟩:=d
 conv=>cbv
 refine z0c hO [.ref 2,.shut] (d_p66 fu O.len hN h) ?_
 intro e Q a b
 conv=>cbv
 refine⟨by subst a hO;rfl,?_⟩
 intro r bs d
 rw [b] at d
 clear a b h
 obtain⟨y8,y9,y10,y11,_,⟨rfl,rfl⟩,h⟩:=d
 conv=>cbv
 refine br_h hO h (by subst hO;rfl) (fun k1 h=>?_) (fun k1 h=>?_)
 conv=>cbv
 rw [b]
 exact⟨0,0,⟨#[]⟩,nilE,nilE,0,y9,_,⟨(by subst hO;rfl),(by subst hO;rfl)⟩,h⟩
 conv=>cbv
 refine z0b hO ?_
 conv=>cbv
 rw [b]
 exact⟨y1,y2,y3,y4,y5,y8,0,_,⟨(by subst hO;rfl),(by subst hO;rfl)⟩,h⟩
inductive Tm where
 | mk (k n:Int) (nm:ByteArray) (ls:List Lv) (args:List Tm)
def Tm.k:Tm→Int
 | .mk k _ _ _ _=>k
def Tm.n:Tm→Int
 | .mk _ n _ _ _=>n
def Tm.nm:Tm→ByteArray
 | .mk _ _ s _ _=>s
def Tm.ls:Tm→List Lv
 | .mk _ _ _ l _=>l
def Tm.args:Tm→List Tm
 | .mk _ _ _ _ l=>l
mutual
def Tm.row:Tm→List CV
 | .mk k n s l a=>[.v (.int .i64 k),.v (.int .i64 n),.v (.string s),.sl 3 (Lv.rows l) none,.sl 5 (Tm.rows a) none]
def Tm.rows:List Tm→EL
 | []=>[]
 | a :: l=>Tm.row a :: Tm.rows l
end
theorem Tm.row_eq (t:Tm):t.row=[.v (.int .i64 t.k),.v (.int .i64 t.n),.v (.string t.nm),.sl 3 (Lv.rows t.ls) none,.sl 5 (Tm.rows t.args) none]:=by cases t;rfl
theorem Tm.rows_len:∀ l:List Tm,(Tm.rows l).length=l.length
 | []=>rfl
 | _ :: l=>by simp [Tm.rows,Tm.rows_len l]
theorem Tm.rows_append:∀ a b:List Tm,Tm.rows (a++b)=Tm.rows a++Tm.rows b
 | [],_=>rfl
 | x :: a,b=>by simp [Tm.rows,Tm.rows_append a b]
theorem Tm.rows_get {l:List Tm} {i:Nat} (h:i < l.length):(Tm.rows l).getD i []=l[i].row:=by
 induction l generalizing i with
 | nil=>simp at h
 | cons a l ih=>cases i with
  | zero=>rfl
  | succ i=>simpa [Tm.rows] using ih (by simpa using h)
theorem w4z {ρ:Type} (fail:ρ) (s:List UInt8) (k:ByteArray→ρ):tobP fail (encB s) k=k ⟨s.toArray⟩:=by
 unfold tobP;rw [z7e]
def z1a (p:Nat) (bs:List UInt8):Except Int (Lv × List UInt8 × Nat):=match z2l bs with
 | .ok (l,r)=>.ok (l,r,p)
 | .error e=>.error e
theorem z7x {bs r:List UInt8} {l:Lv} (h:z2l bs=.ok (l,r)):r.length≤bs.length:=by
 unfold z2l at h;split at h
 ·rename_i l' r' q h'
  injection h with h;injection h with h1 h2;subst h1 h2
  exact (w0i _ _ _ _ _ _ (by omega) h').1
 ·cases h
theorem z2j {m:Nat} (p:Nat) (bs:List UInt8) (a:Lv) (r:List UInt8) (q:Nat) (hp:p≤m) (h:z1a p bs=.ok (a,r,q)):r.length≤bs.length∧q≤m:=by
 unfold z1a at h;split at h
 ·rename_i l' r' h'
  injection h with h;injection h with h1 h;injection h with h2 h3;subst h1 h2 h3
  exact⟨z7x h',hp⟩
 ·cases h
theorem z5i:∀ (n p:Nat) (bs:List UInt8) (l:List Lv) (r:List UInt8) (q:Nat),many z1a n p bs=.ok (l,r,q)→q=p
 | 0,p,bs,l,r,q,h=>by simp only [many] at h;injection h with h;injection h with _ h;injection h with _ h;exact h.symm
 | n + 1,p,bs,l,r,q,h=>by
  simp only [many] at h
  split at h
  ·cases h
  ·rename_i a bs1 p1 h1
   have hp1:p1=p:=by
    unfold z1a at h1;split at h1
    ·injection h1 with h1;injection h1 with _ h1;injection h1 with _ h1;exact h1.symm
    ·cases h1
   split at h
   ·cases h
   ·rename_i l' bs2 p2 h2
    injection h with h;injection h with _ h;injection h with _ h
    have:=z5i n p1 bs1 l' bs2 p2 h2
    omega
def tmN (k:Nat):Nat:=if k=6 then 3 else 2
def rdTm:Nat→Nat→List UInt8→Except Int (Tm × List UInt8 × Nat)
 | 0,p,_=>if 2000 < p + 1 then .error 3 else .error 6
 | left + 1,p,bs=>if 2000 < p + 1 then .error 3 else match z5a 0 6 bs with
  | .error e=>.error e
  | .ok (k,bs) =>
   if k=0 then (match rdNum bs with
    | .error e=>.error e
    | .ok (n,bs)=>.ok (.mk 0 (n:Nat) ⟨#[]⟩ [] [],bs,p + 1))
   else if k=1 then (match many z1a 1 (p + 1) bs with
    | .error e=>.error e
    | .ok (l,bs,q)=>.ok (.mk 1 0 ⟨#[]⟩ l [],bs,q))
   else if k=2 then (match rdTxt 24 bs with
    | .error e=>.error e
    | .ok (s,bs)=>match rdNum bs with
     | .error e=>.error e
     | .ok (n,bs)=>if 4 < n then .error 7 else match many z1a n (p + 1) bs with
      | .error e=>.error e
      | .ok (l,bs,q)=>.ok (.mk 2 0 ⟨s.toArray⟩ l [],bs,q))
   else match many (rdTm left) (tmN k) (p + 1) bs with
    | .error e=>.error e
    | .ok (l,bs,q)=>.ok (.mk (k:Nat) 0 ⟨#[]⟩ [] l,bs,q)
theorem z7l {m:Nat} {bs s r:List UInt8} (h:rdTxt m bs=.ok (s,r)):s.length≤m∧r.length < bs.length∧bs=varB s.length++(s++r)∧s.length < 2 ^ 64:=by
 unfold rdTxt at h;split at h
 ·rename_i v r' hr
  split at h
  ·cases h
  ·split at h
   ·cases h
   ·injection h with h;injection h with h1 h2;subst h1;subst h2
    obtain⟨h1,h2,h3⟩:=w1q hr
    have hl:(r'.take v).length=v:=by rw [List.length_take];omega
    refine⟨by omega,by rw [List.length_drop];omega,?_,by omega⟩
    rw [hl,List.take_append_drop];exact h3
 ·cases h
theorem z5x:∀ (left p:Nat) (bs:List UInt8) (l:Tm) (r:List UInt8) (q:Nat),p≤2000→rdTm left p bs=.ok (l,r,q)→r.length≤bs.length∧q≤2000
 | 0,p,bs,l,r,q,hp,h=>by simp only [rdTm] at h;split at h<;>cases h
 | left + 1,p,bs,l,r,q,hp,h=>by
  simp only [rdTm] at h
  split at h
  ·cases h
  ·split at h
   ·cases h
   ·rename_i k bs1 hk
    have h1:=z2s hk
    split at h
    ·split at h
     ·cases h
     ·rename_i n bs2 hn
      have h2:=z2b hn
      injection h with h;injection h with _ h;injection h with h3 h4;subst h3 h4;exact⟨by omega,by omega⟩
    ·split at h
     ·split at h
      ·cases h
      ·rename_i l2 bs2 p2 hm
       injection h with h;injection h with _ h;injection h with h3 h4;subst h3 h4
       have:=z3g (m:=2000) z2j _ _ _ _ _ _ (by omega) hm
       exact⟨by omega,this.2.1⟩
     ·split at h
      ·split at h
       ·cases h
       ·rename_i s bs2 hs
        have h2:=z7l hs
        split at h
        ·cases h
        ·rename_i n bs3 hn
         have h3:=z2b hn
         split at h
         ·cases h
         ·split at h
          ·cases h
          ·rename_i l2 bs4 p2 hm
           injection h with h;injection h with _ h;injection h with h4 h5;subst h4 h5
           have:=z3g (m:=2000) z2j _ _ _ _ _ _ (by omega) hm
           exact⟨by omega,this.2.1⟩
      ·split at h
       ·cases h
       ·rename_i l2 bs2 p2 hm
        injection h with h;injection h with _ h;injection h with h3 h4;subst h3 h4
        have:=z3g (m:=2000) (fun p bs a r q=>z5x left p bs a r q) _ _ _ _ _ _ (by omega) hm
        exact⟨by omega,this.2.1⟩
abbrev TK8 (ρ:Type):=Int→Int→ByteArray→EL→EL→EL→Int→Int→ρ
def TmOut {ρ:Type} (p:TK8 ρ→ρ):Except Int (Tm × List UInt8 × Nat)→Prop
 | .ok (t,bs,q)=>∀ K:TK8 ρ,p K=K t.k t.n t.nm (Lv.rows t.ls) (Tm.rows t.args) (encB bs) 0 (q:Nat)
 | .error e=>e≠0∧∃ a b c l g B q,∀ K:TK8 ρ,p K=K a b c l g B e q
section
variable {ρ:Type} (fail:ρ) (fu:Nat) (s:TK8 ρ→EL→Int→Int→Int→ρ)
theorem w1a (f:Nat→List UInt8→Except Int (Tm × List UInt8 × Nat)) (d:Int) (k n0:Int) (nm:ByteArray) (L:EL)
  (hf:∀ p bs a r q,p≤2000→f p bs=.ok (a,r,q)→r.length≤bs.length∧q≤2000) (N:Nat) (hs:∀ bs p,bs.length≤N→p≤2000→TmOut (fun K=>s K (encB bs) 0 (z0d .add .i64 d 1) (p:Nat)) (f p bs)) :
  ∀ (r n:Nat) (bs:List UInt8) (p:Nat) (z:EL) (i:Nat),bs.length≤N→p≤2000→z.length≤i→i + r≤1000→r < n →
   match many f r p bs with
   | .ok (l,bs',q)=>∀ K:TK8 ρ,p109_1L fail fu s K d k n0 nm ((i + r:Nat):Int) L n (encB bs) 0 (p:Nat) z (i:Nat)=K k n0 nm L (z++Tm.rows l) (encB bs') 0 (q:Nat)
   | .error e=>e≠0∧∃ g B q,∀ K:TK8 ρ,p109_1L fail fu s K d k n0 nm ((i + r:Nat):Int) L n (encB bs) 0 (p:Nat) z (i:Nat)=K k n0 nm L g B e q
 | 0,n + 1,bs,p,z,i,hb,hp,hz,hi,hn=>by
  simp only [many]
  intro K
  rw [p109_1L,p109_1,lssF (by omega),cond_false]
  simp [Tm.rows]
 | r + 1,n + 1,bs,p,z,i,hb,hp,hz,hi,hn=>by
  have h1:=hs bs p hb hp
  simp only [many]
  have step:∀ K:TK8 ρ,p109_1L fail fu s K d k n0 nm ((i + (r + 1):Nat):Int) L (n + 1) (encB bs) 0 (p:Nat) z (i:Nat)=s (fun a b c l g B e q =>
    p109_1L fail fu s K d k n0 nm ((i + 1 + r:Nat):Int) L n B e q (z++[[.v (.int .i64 a),.v (.int .i64 b),.v (.string c),.sl 3 l none,.sl 5 g none]]) ((i + 1:Nat):Int)) (encB bs) 0 (z0d .add .i64 d 1) (p:Nat):=fun K=>by
   rw [p109_1L,p109_1,lssT (by omega),cond_true,neqF rfl,cond_false]
   congr 1
   funext a b c l g B e q
   rw [gd_y (by simp),gd_y (by simp;omega),addZ (by omega) (by omega),show ((i:Nat):Int) + 1=((i + 1:Nat):Int) by omega,show i + (r + 1)=i + 1 + r by omega]
   rfl
  cases hfv:f p bs with
  | error e =>
   rw [hfv] at h1
   obtain⟨he,a,b,c,l,g,B,q,h1⟩:=h1
   dsimp only at h1
   refine⟨he,z++[[.v (.int .i64 a),.v (.int .i64 b),.v (.string c),.sl 3 l none,.sl 5 g none]],B,q,fun K=>?_⟩
   try dsimp only
   rw [step,h1]
   obtain⟨n,rfl⟩:∃ n',n=n' + 1:=⟨n - 1,by omega⟩
   rw [p109_1L,p109_1]
   cases r with
   | zero=>rw [lssF (by omega),cond_false]
   | succ r=>rw [lssT (by omega),cond_true,neqT he,cond_true]
  | ok x =>
   obtain⟨a,bs1,p1⟩:=x
   rw [hfv] at h1
   simp only [TmOut] at h1
   have h2:=hf _ _ _ _ _ hp hfv
   have ih:=w1a f d k n0 nm L hf N hs r n bs1 p1 (z++[a.row]) (i + 1) (by omega) h2.2 (by simp;omega) (by omega) (by omega)
   have hrow:∀ K:TK8 ρ,p109_1L fail fu s K d k n0 nm ((i + (r + 1):Nat):Int) L (n + 1) (encB bs) 0 (p:Nat) z (i:Nat)=p109_1L fail fu s K d k n0 nm ((i + 1 + r:Nat):Int) L n (encB bs1) 0 (p1:Nat) (z++[a.row]) ((i + 1:Nat):Int):=fun K=>by
    rw [step,h1,Tm.row_eq]
   dsimp only
   cases hm:many f r p1 bs1 with
   | error e =>
    rw [hm] at ih
    obtain⟨he,c,B,q,h3⟩:=ih
    exact⟨he,c,B,q,fun K=>by rw [hrow,h3]⟩
   | ok x =>
    obtain⟨l,bs2,p2⟩:=x
    rw [hm] at ih
    intro K
    rw [hrow,ih,List.append_assoc];rfl
theorem z5p (hfu:50≤fu) (d y3:Int) (k n0:Int) (nm:ByteArray) (na:Int) (N:Nat) (hN:N≤1099511627776) :
  ∀ (r n:Nat) (bs:List UInt8) (p:Nat) (z:EL) (i:Nat),bs.length≤N→z.length≤i→i + r≤1000→r < n →
   match many z1a r p bs with
   | .ok (l,bs',q)=>∀ K:TK8 ρ,p109_2L fail fu s K d y3 k n0 nm na ((i + r:Nat):Int) n (encB bs) 0 z (i:Nat)=p109_1L fail fu s K d k n0 nm na (z++Lv.rows l) fu (encB bs') 0 y3 nilE 0
   | .error e=>e≠0∧∃ l B,∀ K:TK8 ρ,na=0→p109_2L fail fu s K d y3 k n0 nm na ((i + r:Nat):Int) n (encB bs) 0 z (i:Nat)=K k n0 nm l nilE B e y3
 | 0,n + 1,bs,p,z,i,hb,hz,hi,hn=>by
  simp only [many]
  intro K
  rw [p109_2L,p109_2,lssF (by omega),cond_false]
  simp [Lv.rows]
 | r + 1,n + 1,bs,p,z,i,hb,hz,hi,hn=>by
  have h1:=k1h fail fu hfu bs (by omega)
  simp only [many]
  have step:∀ K:TK8 ρ,p109_2L fail fu s K d y3 k n0 nm na ((i + (r + 1):Nat):Int) (n + 1) (encB bs) 0 z (i:Nat)=p67 fail fu (fun a b c B e =>
    p109_2L fail fu s K d y3 k n0 nm na ((i + 1 + r:Nat):Int) n B e (z++[[.v (.int .i64 a),.v (.int .i64 b),.sl 3 c none]]) ((i + 1:Nat):Int)) (encB bs) 0:=fun K=>by
   rw [p109_2L,p109_2,lssT (by omega),cond_true,neqF rfl,cond_false]
   congr 1
   funext a b c B e
   rw [gd_y (by simp),gd_y (by simp;omega),addZ (by omega) (by omega),show ((i:Nat):Int) + 1=((i + 1:Nat):Int) by omega,show i + (r + 1)=i + 1 + r by omega]
   rfl
  unfold z1a
  cases hfv:z2l bs with
  | error e =>
   rw [hfv] at h1
   obtain⟨he,a,b,c,B,h1⟩:=h1
   dsimp only at h1
   refine⟨he,z++[[.v (.int .i64 a),.v (.int .i64 b),.sl 3 c none]],B,fun K hna=>?_⟩
   try dsimp only
   rw [step,h1]
   obtain⟨n,rfl⟩:∃ n',n=n' + 1:=⟨n - 1,by omega⟩
   rw [p109_2L,p109_2]
   cases r with
   | zero =>
    rw [lssF (by omega),cond_false]
    obtain⟨m,hm⟩:∃ m,fu=m + 1:=⟨fu - 1,by omega⟩
    have:∀ m',m'=m + 1→p109_1L fail fu s K d k n0 nm na (z++[[.v (.int .i64 a),.v (.int .i64 b),.sl 3 c none]]) m' B e y3 nilE 0=K k n0 nm (z++[[.v (.int .i64 a),.v (.int .i64 b),.sl 3 c none]]) nilE B e y3:=fun m' h=>by
     subst h;rw [p109_1L,p109_1,lssF (by omega),cond_false]
    exact this fu hm
   | succ r=>rw [lssT (by omega),cond_true,neqT he,cond_true]
  | ok x =>
   obtain⟨a,bs1⟩:=x
   rw [hfv] at h1
   simp only [LvO2] at h1
   have h2:=z7x hfv
   have ih:=z5p hfu d y3 k n0 nm na N hN r n bs1 p (z++[a.row]) (i + 1) (by omega) (by simp;omega) (by omega) (by omega)
   have hrow:∀ K:TK8 ρ,p109_2L fail fu s K d y3 k n0 nm na ((i + (r + 1):Nat):Int) (n + 1) (encB bs) 0 z (i:Nat)=p109_2L fail fu s K d y3 k n0 nm na ((i + 1 + r:Nat):Int) n (encB bs1) 0 (z++[a.row]) ((i + 1:Nat):Int):=fun K=>by
    rw [step,h1,Lv.row_eq]
   dsimp only
   cases hm:many z1a r p bs1 with
   | error e =>
    rw [hm] at ih
    obtain⟨he,c,B,h3⟩:=ih
    have hm':many (fun p bs=>match z2l bs with | .ok (l,r)=>Except.ok (l,r,p) | .error e=>.error e) r p bs1=.error e:=hm
    rw [hm']
    exact⟨he,c,B,fun K hna=>by rw [hrow,h3 K hna]⟩
   | ok x =>
    obtain⟨l,bs2,p2⟩:=x
    rw [hm] at ih
    have hm':many (fun p bs=>match z2l bs with | .ok (l,r)=>Except.ok (l,r,p) | .error e=>.error e) r p bs1=.ok (l,bs2,p2):=hm
    rw [hm']
    intro K
    rw [hrow,ih,List.append_assoc];rfl
theorem w1b (hfu:2≤fu) (K:TK8 ρ) (d y3 k n0:Int) (nm:ByteArray) (na nl:Int) (B:EL) (e:Int) (he:e≠0) (hna:0≤na) (hnl:0≤nl):p109_2L fail fu s K d y3 k n0 nm na nl fu B e nilE 0=K k n0 nm nilE nilE B e y3:=by
 obtain⟨m,hm⟩:∃ m,fu=m + 1:=⟨fu - 1,by omega⟩
 have h1:∀ m',m'=m + 1→p109_1L fail fu s K d k n0 nm na nilE m' B e y3 nilE 0=K k n0 nm nilE nilE B e y3:=fun m' h=>by
  subst h;rw [p109_1L,p109_1]
  by_cases h0:0 < na
  ·rw [lssT h0,cond_true,neqT he,cond_true]
  ·rw [lssF (by omega),cond_false]
 have h2:∀ m',m'=m + 1→p109_2L fail fu s K d y3 k n0 nm na nl m' B e nilE 0=K k n0 nm nilE nilE B e y3:=fun m' h=>by
  subst h;rw [p109_2L,p109_2]
  by_cases h0:0 < nl
  ·rw [lssT h0,cond_true,neqT he,cond_true]
  ·rw [lssF (by omega),cond_false];exact h1 fu hm
 exact h2 fu hm
end
theorem k2b {ρ:Type} (fail:ρ):∀ (left fu:Nat),left + 60≤fu→left≤100→∀ (bs:List UInt8) (p:Nat),bs.length≤1099511627776→p≤2000 →
  TmOut (fun K=>p109 fail fu K (encB bs) 0 ((101 - left:Nat):Int) (p:Nat)) (rdTm left p bs):=by
 intro left
 induction left with
 | zero =>
  intro fu hf hl bs p hb hp
  obtain⟨m,rfl⟩:∃ m,fu=m + 1:=⟨fu - 1,by omega⟩
  have hpart:=fun K=>w0l (ρ:=ρ) fail m K (encB bs) p 2000 101 100 (by omega)
  simp only [rdTm]
  by_cases h1:2000 < p + 1
  ·rw [if_pos h1]
   refine⟨by omega,0,0,⟨#[]⟩,nilE,nilE,encB bs,((p + 1:Nat):Int),fun K=>?_⟩
   try dsimp only
   rw [p109,p109_b]
   erw [hpart]
   rw [if_pos h1,neqT (by omega),cond_true]
  ·rw [if_neg h1]
   refine⟨by omega,0,0,⟨#[]⟩,nilE,nilE,encB bs,((p + 1:Nat):Int),fun K=>?_⟩
   try dsimp only
   rw [p109,p109_b]
   erw [hpart]
   rw [if_neg h1,if_pos (by omega),neqT (by omega),cond_true]
 | succ left ih =>
  intro fu hf hl bs p hb hp
  obtain⟨m,rfl⟩:∃ m,fu=m + 1:=⟨fu - 1,by omega⟩
  have hpart:=fun K=>w0l (ρ:=ρ) fail m K (encB bs) p 2000 (101 - (left + 1)) 100 (by omega)
  have hkind:=w8w (ρ:=ρ) fail m (by omega) bs hb 0 6 (by omega) (by omega)
  simp only [rdTm]
  by_cases h1:2000 < p + 1
  ·rw [if_pos h1]
   refine⟨by omega,0,0,⟨#[]⟩,nilE,nilE,encB bs,((p + 1:Nat):Int),fun K=>?_⟩
   try dsimp only
   rw [p109,p109_b]
   erw [hpart]
   rw [if_pos h1,neqT (by omega),cond_true]
  ·rw [if_neg h1]
   generalize hs:p109 fail m=s
   generalize hd0:((101 - (left + 1):Nat):Int)=d at hpart
   have hd:z0d .add .i64 d 1=((101 - left:Nat):Int):=by subst hd0;rw [addZ (by omega) (by omega)];omega
   generalize hq0:((p + 1:Nat):Int)=q at hpart
   have hb1:∀ K:TK8 ρ,p109 fail (m + 1) K (encB bs) 0 d (p:Nat)=p93 fail m (fun y4 y5 y6=>bif (z0a .eql y4 0) then (p91 fail m (fun y35 y36 y37=>p109_3 fail m s K d q y4 y36 y37 y35 ⟨#[]⟩ 0 0) y5 y6) else (bif (z0a .eql y4 1) then (p109_4 fail m s K d q y4 y5 y6 ⟨#[]⟩ 0 1) else (bif (z0a .eql y4 2) then (p95 fail m (fun y48 y49 y50=>tobP fail y48 (fun s51=>p91 fail m (fun y52 y53 y54=>bif (z0a .gtr y52 4) then (p94 fail m (fun y57 y58=>p109_6 fail m s K d q y4 s51 y52 y57 y58) y53 y54 7) else (p109_6 fail m s K d q y4 s51 y52 y53 y54)) y49 y50)) y5 y6 24) else (bif (z0a .eql y4 6) then (p109_7 fail m s K d q y4 y5 y6 3) else (p109_7 fail m s K d q y4 y5 y6 2))))) (encB bs) 0 ((0:Nat):Int) ((6:Nat):Int):=fun K=>by
    rw [p109,p109_b,hs]
    erw [hpart]
    rw [if_neg h1,if_neg (by omega),neqF rfl,cond_false]
    rfl
   cases hk:z5a 0 6 bs with
   | error e =>
    rw [hk] at hkind
    obtain⟨he,B,hB⟩:=hkind
    dsimp only at hB
    refine⟨he,0,0,⟨#[]⟩,nilE,nilE,B,q,fun K=>?_⟩
    try dsimp only
    rw [hb1,hB]
    rw [eqlT (by omega),cond_true,numE _ _ _ _ _ he,p109_3]
    exact w1b fail m s (by omega) K d q _ _ _ 0 0 B e he (by omega) (by omega)
   | ok x =>
    obtain⟨k,bs1⟩:=x
    have hk1:=z2s hk
    rw [hk] at hkind
    simp only [KOut] at hkind
    dsimp only
    by_cases k0:k=0
    ·subst k0
     rw [if_pos rfl]
     have hb3:∀ K:TK8 ρ,p109 fail (m + 1) K (encB bs) 0 d (p:Nat)=p91 fail m (fun y35 y36 y37=>p109_3 fail m s K d q ((0:Nat):Int) y36 y37 y35 ⟨#[]⟩ 0 0) (encB bs1) 0:=fun K=>by
      rw [hb1,hkind,eqlT (by omega),cond_true]
     have hnum:=w8p (ρ:=ρ) fail m (by omega) bs1 (by omega)
     cases hn:rdNum bs1 with
     | error e =>
      rw [hn] at hnum
      obtain⟨he,B,hB⟩:=hnum
      dsimp only at hB
      refine⟨he,((0:Nat):Int),0,⟨#[]⟩,nilE,nilE,B,q,fun K=>?_⟩
      try dsimp only
      rw [hb3,hB,p109_3]
      exact w1b fail m s (by omega) K d q _ _ _ 0 0 B e he (by omega) (by omega)
     | ok x =>
      obtain⟨n,bs2⟩:=x
      rw [hn] at hnum
      simp only [KOut] at hnum
      intro K
      dsimp only
      rw [hb3,hnum,p109_3]
      have h3:=z5p fail m s (by omega) d q ((0:Nat):Int) ((n:Nat):Int) ⟨#[]⟩ 0 1099511627776 (by omega) 0 m bs2 (p + 1) nilE 0 (by have:=z2b hn;omega) (by simp) (by omega) (by omega)
      simp only [many] at h3
      have h4:=w1a fail m s (rdTm left) d ((0:Nat):Int) ((n:Nat):Int) ⟨#[]⟩ nilE (fun p bs a r q=>z5x left p bs a r q) 1099511627776 (fun bs p hb hp=>by rw [hd,← hs];exact ih m (by omega) (by omega) bs p hb hp) 0 m bs2 (p + 1) nilE 0 (by have:=z2b hn;omega) (by omega) (by simp) (by omega) (by omega)
      simp only [many] at h4
      rw [hq0] at h4 ⊢
      exact (h3 K).trans (h4 K)
    rw [if_neg k0]
    by_cases k1:k=1
    ·subst k1
     rw [if_pos rfl]
     have hb3:∀ K:TK8 ρ,p109 fail (m + 1) K (encB bs) 0 d (p:Nat)=p109_2L fail m s K d q ((1:Nat):Int) 0 ⟨#[]⟩ 0 ((0 + 1:Nat):Int) m (encB bs1) 0 nilE ((0:Nat):Int):=fun K=>by
      rw [hb1,hkind,eqlF (by omega),cond_false,eqlT (by omega),cond_true,p109_4,p109_3];rfl
     have h3:=z5p fail m s (by omega) d q ((1:Nat):Int) 0 ⟨#[]⟩ 0 1099511627776 (by omega) 1 m bs1 (p + 1) nilE 0 (by omega) (by simp) (by omega) (by omega)
     cases hm:many z1a 1 (p + 1) bs1 with
     | error e =>
      rw [hm] at h3
      obtain⟨he,l,B,h3⟩:=h3
      exact⟨he,_,_,_,l,nilE,B,q,fun K=>by dsimp only;rw [hb3];exact h3 K rfl⟩
     | ok x =>
      obtain⟨l,bs2,p2⟩:=x
      rw [hm] at h3
      have hsub:=z3g (m:=2000) z2j _ _ _ _ _ _ (by omega) hm
      have hp2:p2=p + 1:=z5i _ _ _ _ _ _ hm
      intro K
      dsimp only
      have h4:=w1a fail m s (rdTm left) d ((1:Nat):Int) 0 ⟨#[]⟩ (Lv.rows l) (fun p bs a r q=>z5x left p bs a r q) 1099511627776 (fun bs p hb hp=>by rw [hd,← hs];exact ih m (by omega) (by omega) bs p hb hp) 0 m bs2 (p + 1) nilE 0 (by omega) (by omega) (by simp) (by omega) (by omega)
      simp only [many] at h4
      rw [hb3,h3 K,List.nil_append,hp2]
      rw [hq0] at h4 ⊢
      exact h4 K
    rw [if_neg k1]
    by_cases k2:k=2
    ·subst k2
     rw [if_pos rfl]
     have htxt:=k2a (ρ:=ρ) fail m (by omega) bs1 (by omega) 24 (by omega)
     have hb3:∀ K:TK8 ρ,p109 fail (m + 1) K (encB bs) 0 d (p:Nat)=p95 fail m (fun y48 y49 y50=>tobP fail y48 (fun s51=>p91 fail m (fun y52 y53 y54=>bif (z0a .gtr y52 4) then (p94 fail m (fun y57 y58=>p109_6 fail m s K d q ((2:Nat):Int) s51 y52 y57 y58) y53 y54 7) else (p109_6 fail m s K d q ((2:Nat):Int) s51 y52 y53 y54)) y49 y50)) (encB bs1) 0 ((24:Nat):Int):=fun K=>by
      rw [hb1,hkind,eqlF (by omega),cond_false,eqlF (by omega),cond_false,eqlT (by omega),cond_true];rfl
     cases ht:rdTxt 24 bs1 with
     | error e =>
      rw [ht] at htxt
      obtain⟨he,B,hB⟩:=htxt
      dsimp only at hB
      refine⟨he,((2:Nat):Int),0,⟨#[]⟩,nilE,nilE,B,q,fun K=>?_⟩
      try dsimp only
      rw [hb3,hB,show (nilE:EL)=encB [] from rfl,w4z,numE _ _ _ _ _ he,gtrF (by omega),cond_false,p109_6,p109_5,p109_4,p109_3]
      exact w1b fail m s (by omega) K d q _ _ _ 0 0 B e he (by omega) (by omega)
     | ok x =>
      obtain⟨sx,bs2⟩:=x
      have ht1:=z7l ht
      rw [ht] at htxt
      simp only [SOut] at htxt
      dsimp only
      have hb4:∀ K:TK8 ρ,p109 fail (m + 1) K (encB bs) 0 d (p:Nat)=p91 fail m (fun y52 y53 y54=>bif (z0a .gtr y52 4) then (p94 fail m (fun y57 y58=>p109_6 fail m s K d q ((2:Nat):Int) ⟨sx.toArray⟩ y52 y57 y58) y53 y54 7) else (p109_6 fail m s K d q ((2:Nat):Int) ⟨sx.toArray⟩ y52 y53 y54)) (encB bs2) 0:=fun K=>by
       rw [hb3,htxt,w4z]
      have hnum:=w8p (ρ:=ρ) fail m (by omega) bs2 (by omega)
      cases hn:rdNum bs2 with
      | error e =>
       rw [hn] at hnum
       obtain⟨he,B,hB⟩:=hnum
       dsimp only at hB
       refine⟨he,((2:Nat):Int),0,⟨sx.toArray⟩,nilE,nilE,B,q,fun K=>?_⟩
       try dsimp only
       rw [hb4,hB,gtrF (by omega),cond_false,p109_6,p109_5,p109_4,p109_3]
       exact w1b fail m s (by omega) K d q _ _ _ 0 0 B e he (by omega) (by omega)
      | ok x =>
       obtain⟨n,bs3⟩:=x
       have hn1:=z2b hn
       rw [hn] at hnum
       simp only [KOut] at hnum
       dsimp only
       by_cases h4:4 < n
       ·rw [if_pos h4]
        refine⟨by omega,((2:Nat):Int),0,⟨sx.toArray⟩,nilE,nilE,encB bs3,q,fun K=>?_⟩
        try dsimp only
        rw [hb4,hnum,gtrT (by omega),cond_true,z3r,p109_6,p109_5,p109_4,p109_3]
        exact w1b fail m s (by omega) K d q _ _ _ 0 _ (encB bs3) 7 (by omega) (by omega) (by omega)
       ·rw [if_neg h4]
        have hb5:∀ K:TK8 ρ,p109 fail (m + 1) K (encB bs) 0 d (p:Nat)=p109_2L fail m s K d q ((2:Nat):Int) 0 ⟨sx.toArray⟩ 0 ((0 + n:Nat):Int) m (encB bs3) 0 nilE ((0:Nat):Int):=fun K=>by
         rw [hb4,hnum,gtrF (by omega),cond_false,p109_6,p109_5,p109_4,p109_3,Nat.zero_add];rfl
        have h3:=z5p fail m s (by omega) d q ((2:Nat):Int) 0 ⟨sx.toArray⟩ 0 1099511627776 (by omega) n m bs3 (p + 1) nilE 0 (by omega) (by simp) (by omega) (by omega)
        cases hm:many z1a n (p + 1) bs3 with
        | error e =>
         rw [hm] at h3
         obtain⟨he,l,B,h3⟩:=h3
         exact⟨he,_,_,_,l,nilE,B,q,fun K=>by dsimp only;rw [hb5];exact h3 K rfl⟩
        | ok x =>
         obtain⟨l,bs4,p2⟩:=x
         rw [hm] at h3
         have hsub:=z3g (m:=2000) z2j _ _ _ _ _ _ (by omega) hm
         have hp2:p2=p + 1:=z5i _ _ _ _ _ _ hm
         intro K
         dsimp only
         have h5:=w1a fail m s (rdTm left) d ((2:Nat):Int) 0 ⟨sx.toArray⟩ (Lv.rows l) (fun p bs a r q=>z5x left p bs a r q) 1099511627776 (fun bs p hb hp=>by rw [hd,← hs];exact ih m (by omega) (by omega) bs p hb hp) 0 m bs4 (p + 1) nilE 0 (by omega) (by omega) (by simp) (by omega) (by omega)
         simp only [many] at h5
         rw [hb5,h3 K,List.nil_append,hp2]
         rw [hq0] at h5 ⊢
         exact h5 K
    rw [if_neg k2]
    have hb3:∀ K:TK8 ρ,p109 fail (m + 1) K (encB bs) 0 d (p:Nat)=p109_2L fail m s K d q ((k:Nat):Int) 0 ⟨#[]⟩ ((0 + tmN k:Nat):Int) ((0 + 0:Nat):Int) m (encB bs1) 0 nilE ((0:Nat):Int):=fun K=>by
     rw [hb1,hkind,eqlF (by omega),cond_false,eqlF (by omega),cond_false,eqlF (by omega),cond_false]
     by_cases k6:k=6
     ·rw [eqlT (by omega),cond_true,p109_7,p109_5,p109_4,p109_3,tmN,if_pos k6];rfl
     ·rw [eqlF (by omega),cond_false,p109_7,p109_5,p109_4,p109_3,tmN,if_neg k6];rfl
    have htN:tmN k≤3:=by unfold tmN;split<;>omega
    have h3:=z5p fail m s (by omega) d q ((k:Nat):Int) 0 ⟨#[]⟩ ((0 + tmN k:Nat):Int) 1099511627776 (by omega) 0 m bs1 (p + 1) nilE 0 (by omega) (by simp) (by omega) (by omega)
    simp only [many] at h3
    have h4:=w1a fail m s (rdTm left) d ((k:Nat):Int) 0 ⟨#[]⟩ nilE (fun p bs a r q=>z5x left p bs a r q) 1099511627776 (fun bs p hb hp=>by rw [hd,← hs];exact ih m (by omega) (by omega) bs p hb hp) (tmN k) m bs1 (p + 1) nilE 0 (by omega) (by omega) (by simp) (by omega) (by omega)
    rw [hq0] at h4
    cases hm:many (rdTm left) (tmN k) (p + 1) bs1 with
    | error e =>
     rw [hm] at h4
     obtain⟨he,g,B,q',h4⟩:=h4
     exact⟨he,_,_,_,nilE,g,B,q',fun K=>by dsimp only;rw [hb3,h3 K];exact h4 K⟩
    | ok x =>
     obtain⟨l,bs2,p2⟩:=x
     rw [hm] at h4
     intro K
     dsimp only
     rw [hb3,h3 K];exact h4 K
def z4m (bs:List UInt8):Except Int (Tm × List UInt8):=match rdTm 100 0 bs with
 | .ok (l,r,_)=>.ok (l,r)
 | .error e=>.error e
abbrev TK7 (ρ:Type):=Int→Int→ByteArray→EL→EL→EL→Int→ρ
def TmO2 {ρ:Type} (p:TK7 ρ→ρ):Except Int (Tm × List UInt8)→Prop
 | .ok (t,bs)=>∀ K:TK7 ρ,p K=K t.k t.n t.nm (Lv.rows t.ls) (Tm.rows t.args) (encB bs) 0
 | .error e=>e≠0∧∃ a b c l g B,∀ K:TK7 ρ,p K=K a b c l g B e
theorem k2v {ρ:Type} (fail:ρ) (fu:Nat) (hf:170≤fu) (bs:List UInt8) (hb:bs.length≤1099511627776):TmO2 (fun K=>p65 fail fu K (encB bs) 0) (z4m bs):=by
 have:=k2b fail 100 fu (by omega) (by omega) bs 0 hb (by omega)
 unfold z4m
 cases h:rdTm 100 0 bs with
 | error e =>
  rw [h] at this
  obtain⟨he,a,b,c,l,g,B,q,h1⟩:=this
  dsimp only at h1
  refine⟨he,a,b,c,l,g,B,fun K=>?_⟩
  try dsimp only
  rw [p65];exact h1 _
 | ok x =>
  obtain⟨l,r,q⟩:=x
  rw [h] at this
  intro K
  dsimp only
  rw [p65];exact this _
def p63 {ρ:Type} (fail:ρ) (fu:Nat) (K0:EL→ρ) (x0:EL):ρ :=
 gd (0=nilE.length) fail (gd ((nilE.length + x0.length) * 1≤35184372088832) fail (K0 (nilE++x0)))
def p120 {ρ:Type} (fail:ρ) (fu:Nat) (K0:EL→ρ) (x0:EL) (x1:Int):ρ :=
 gd ((0:Int)≤0) fail (gd ((0:Int)≤(z0d .add .i64 ((x0.length:Nat):Int) x1)) fail (gd ((z0d .add .i64 ((x0.length:Nat):Int) x1:Int) * (1:Nat)≤70368744177664) fail (gd (((0:Int).toNat)=(List.replicate ((0:Int).toNat) [(CV.v (.int .u8 0))]).length) fail (gd (((List.replicate ((0:Int).toNat) [(CV.v (.int .u8 0))]).length + x0.length) * 1≤35184372088832) fail (K0 ((List.replicate ((0:Int).toNat) [(CV.v (.int .u8 0))])++x0))))))
def p140_1 {ρ:Type} (fail:ρ) (fu:Nat) (K0:EL→ρ) (rec1:Int→EL→ρ) (z2:Int) (z3:EL):ρ :=
 bif (z0a .geq z2 128) then (gd (1≤[[(CV.v (.int .u8 (z0d .or .u8 (IntKind.u8.wrap z2) 128)))]].length) fail (gd ((z3.length + (List.take 1 [[(CV.v (.int .u8 (z0d .or .u8 (IntKind.u8.wrap z2) 128)))]]).length) * 1≤35184372088832) fail (gd ((0:Int)≤7) fail (rec1 (z0d .shr .u64 z2 7) (z3++(List.take 1 [[(CV.v (.int .u8 (z0d .or .u8 (IntKind.u8.wrap z2) 128)))]])))))) else (gd (1≤[[(CV.v (.int .u8 (IntKind.u8.wrap z2)))]].length) fail (gd ((z3.length + (List.take 1 [[(CV.v (.int .u8 (IntKind.u8.wrap z2)))]]).length) * 1≤35184372088832) fail (K0 (z3++(List.take 1 [[(CV.v (.int .u8 (IntKind.u8.wrap z2)))]])))))
def p140_1L {ρ:Type} (fail:ρ) (fu:Nat) (K0:EL→ρ):Nat→Int→EL→ρ
 | 0,_,_=>fail
 | n + 1,z2,z3=>p140_1 fail fu K0 (p140_1L fail fu K0 n) z2 z3
def p140 {ρ:Type} (fail:ρ) (fu:Nat) (K0:EL→ρ) (x0:EL) (x1:Int):ρ :=
 p120 fail fu (fun y1=>p140_1L fail fu K0 fu x1 y1) x0 10
def p119 {ρ:Type} (fail:ρ) (fu:Nat) (K0:EL→ρ) (x0:EL) (x1:Int):ρ :=
 p140 fail fu (fun y1=>gd ((x0.length + y1.length) * 1≤35184372088832) fail (K0 (x0++y1))) nilE x1
def p83_1 {ρ:Type} (fail:ρ) (fu:Nat) (K0:EL→ρ) (rec1:EL→Int→Int→ρ) (x1 z1:EL) (z2 z3:Int):ρ :=
 bif (z0a .lss z3 z2) then (gd ((0:Int)≤z3) fail (gd ((z3:Int) < (x1.length:Nat)) fail (w5e fail (List.getD x1 ((z3:Int).toNat) []) (fun c4=>p119 fail fu (fun y5=>rec1 y5 z2 (z0d .add .i64 z3 1)) z1 (IntKind.u64.wrap c4))))) else (K0 z1)
def p83_1L {ρ:Type} (fail:ρ) (fu:Nat) (K0:EL→ρ) (x1:EL):Nat→EL→Int→Int→ρ
 | 0,_,_,_=>fail
 | n + 1,z1,z2,z3=>p83_1 fail fu K0 (p83_1L fail fu K0 x1 n) x1 z1 z2 z3
def p83 {ρ:Type} (fail:ρ) (fu:Nat) (K0:EL→ρ) (x0 x1:EL):ρ :=
 p83_1L fail fu K0 x1 fu x0 ((x1.length:Nat):Int) 0
def p87 {ρ:Type} (fail:ρ) (fu:Nat) (K0:EL→ρ) (x0 x1:EL):ρ :=
 p119 fail fu (fun y1=>gd ((y1.length + x1.length) * 1≤35184372088832) fail (K0 (y1++x1))) x0 (IntKind.u64.wrap ((x1.length:Nat):Int))
def p70_1 {ρ:Type} (fail:ρ) (fu:Nat) (s_p70:(EL→ρ)→EL→Int→Int→EL→ρ) (K0:EL→ρ) (rec1:EL→Int→Int→ρ) (x3 z3:EL) (z4 z5:Int):ρ :=
 bif (z0a .lss z5 z4) then (gd ((0:Int)≤z5) fail (gd ((z5:Int) < (x3.length:Nat)) fail (z0n fail (List.getD x3 ((z5:Int).toNat) []) (fun c6 c7 c8=>s_p70 (fun y9=>rec1 y9 z4 (z0d .add .i64 z5 1)) z3 c6 c7 c8)))) else (K0 z3)
def p70_1L {ρ:Type} (fail:ρ) (fu:Nat) (s_p70:(EL→ρ)→EL→Int→Int→EL→ρ) (K0:EL→ρ) (x3:EL):Nat→EL→Int→Int→ρ
 | 0,_,_,_=>fail
 | n + 1,z3,z4,z5=>p70_1 fail fu s_p70 K0 (p70_1L fail fu s_p70 K0 x3 n) x3 z3 z4 z5
def p70_2 {ρ:Type} (fail:ρ) (fu:Nat) (s_p70:(EL→ρ)→EL→Int→Int→EL→ρ) (K0:EL→ρ) (x3 j2:EL):ρ :=
 p70_1L fail fu s_p70 K0 x3 fu j2 ((x3.length:Nat):Int) 0
def p70_b {ρ:Type} (fail:ρ) (fu:Nat) (s_p70:(EL→ρ)→EL→Int→Int→EL→ρ) (K0:EL→ρ) (x0:EL) (x1 x2:Int) (x3:EL):ρ :=
 gd (1≤[[(CV.v (.int .i64 x1))]].length) fail (p83 fail fu (fun y1=>bif (z0a .eql x1 4) then (gd (1≤[[(CV.v (.int .i64 x2))]].length) fail (p83 fail fu (fun y10=>p70_2 fail fu s_p70 K0 x3 y10) y1 (List.take 1 [[(CV.v (.int .i64 x2))]]))) else (p70_2 fail fu s_p70 K0 x3 y1)) x0 (List.take 1 [[(CV.v (.int .i64 x1))]]))
def p70 {ρ:Type} (fail:ρ):Nat→(EL→ρ)→EL→Int→Int→EL→ρ
 | 0,_,_,_,_,_=>fail
 | n + 1,K0,x0,x1,x2,x3=>p70_b fail n (p70 fail n) K0 x0 x1 x2 x3
def p64_1 {ρ:Type} (fail:ρ) (fu:Nat) (s_p64:(EL→ρ)→EL→Int→Int→ByteArray→EL→EL→ρ) (K0:EL→ρ) (rec2:EL→Int→Int→ρ) (x5 z10:EL) (z11 z12:Int):ρ :=
 bif (z0a .lss z12 z11) then (gd ((0:Int)≤z12) fail (gd ((z12:Int) < (x5.length:Nat)) fail (z0i fail (List.getD x5 ((z12:Int).toNat) []) (fun c13 c14 c15 c16 c17=>s_p64 (fun y18=>rec2 y18 z11 (z0d .add .i64 z12 1)) z10 c13 c14 c15 c16 c17)))) else (K0 z10)
def p64_1L {ρ:Type} (fail:ρ) (fu:Nat) (s_p64:(EL→ρ)→EL→Int→Int→ByteArray→EL→EL→ρ) (K0:EL→ρ) (x5:EL):Nat→EL→Int→Int→ρ
 | 0,_,_,_=>fail
 | n + 1,z10,z11,z12=>p64_1 fail fu s_p64 K0 (p64_1L fail fu s_p64 K0 x5 n) x5 z10 z11 z12
def p64_2 {ρ:Type} (fail:ρ) (fu:Nat) (s_p64:(EL→ρ)→EL→Int→Int→ByteArray→EL→EL→ρ) (K0:EL→ρ) (rec1:EL→Int→Int→ρ) (x4 x5 z3:EL) (z4 z5:Int):ρ :=
 bif (z0a .lss z5 z4) then (gd ((0:Int)≤z5) fail (gd ((z5:Int) < (x4.length:Nat)) fail (z0n fail (List.getD x4 ((z5:Int).toNat) []) (fun c6 c7 c8=>p70 fail fu (fun y9=>rec1 y9 z4 (z0d .add .i64 z5 1)) z3 c6 c7 c8)))) else (p64_1L fail fu s_p64 K0 x5 fu z3 ((x5.length:Nat):Int) 0)
def p64_2L {ρ:Type} (fail:ρ) (fu:Nat) (s_p64:(EL→ρ)→EL→Int→Int→ByteArray→EL→EL→ρ) (K0:EL→ρ) (x4 x5:EL):Nat→EL→Int→Int→ρ
 | 0,_,_,_=>fail
 | n + 1,z3,z4,z5=>p64_2 fail fu s_p64 K0 (p64_2L fail fu s_p64 K0 x4 x5 n) x4 x5 z3 z4 z5
def p64_3 {ρ:Type} (fail:ρ) (fu:Nat) (s_p64:(EL→ρ)→EL→Int→Int→ByteArray→EL→EL→ρ) (K0:EL→ρ) (x4 x5 j2:EL):ρ :=
 p64_2L fail fu s_p64 K0 x4 x5 fu j2 ((x4.length:Nat):Int) 0
def p64_4 {ρ:Type} (fail:ρ) (fu:Nat) (s_p64:(EL→ρ)→EL→Int→Int→ByteArray→EL→EL→ρ) (K0:EL→ρ) (x4 x5 j20:EL):ρ :=
 p64_3 fail fu s_p64 K0 x4 x5 j20
def p64_b {ρ:Type} (fail:ρ) (fu:Nat) (s_p64:(EL→ρ)→EL→Int→Int→ByteArray→EL→EL→ρ) (K0:EL→ρ) (x0:EL) (x1 x2:Int) (x3:ByteArray) (x4 x5:EL):ρ :=
 gd (1≤[[(CV.v (.int .i64 x1))]].length) fail (p83 fail fu (fun y1=>bif (z0a .eql x1 0) then (gd (1≤[[(CV.v (.int .i64 x2))]].length) fail (p83 fail fu (fun y19=>p64_3 fail fu s_p64 K0 x4 x5 y19) y1 (List.take 1 [[(CV.v (.int .i64 x2))]]))) else (bif (z0a .eql x1 2) then (gd (x3.size≤(encB x3.data.toList).length) fail (p87 fail fu (fun y21=>gd (1≤[[(CV.v (.int .i64 ((x4.length:Nat):Int)))]].length) fail (p83 fail fu (fun y22=>p64_4 fail fu s_p64 K0 x4 x5 y22) y21 (List.take 1 [[(CV.v (.int .i64 ((x4.length:Nat):Int)))]]))) y1 (List.take x3.size (encB x3.data.toList)))) else (p64_4 fail fu s_p64 K0 x4 x5 y1))) x0 (List.take 1 [[(CV.v (.int .i64 x1))]]))
def p64 {ρ:Type} (fail:ρ):Nat→(EL→ρ)→EL→Int→Int→ByteArray→EL→EL→ρ
 | 0,_,_,_,_,_,_,_=>fail
 | n + 1,K0,x0,x1,x2,x3,x4,x5=>p64_b fail n (p64 fail n) K0 x0 x1 x2 x3 x4 x5
def p17 {ρ:Type} (fail:ρ) (fu:Nat) (K0:EL→ρ) (x0:EL) (x1 x2:Int) (x3:ByteArray) (x4 x5:EL):ρ :=
 p63 fail fu (fun y1=>p64 fail fu (fun y2=>K0 y2) y1 x1 x2 x3 x4 x5) x0
theorem d_p63 (fu:Nat){K0:EL→Prop}(L:EL→Nat)(hN:L=List.length){x0:EL}(h:p63 False fu K0 x0):Den Try.prog G0 63 [.c (.sl 1 x0 none)] (fun r bs=>(∃ (y0:EL) (o0:OV),(r=.ptr [.arr 1 y0 none false (L y0)]∧bs=[o0])∧K0 y0)):=by
 obtain⟨O,hO⟩:∃ O,O=std 0 T G0 (Den Try.prog G0):=⟨_,rfl⟩
 have hLO:L=O.len:=by rw [hN,hO];rfl
 subst hLO
 refine den_h hO tiA mixed tabOk (fn:=Try.f63) (sh:=true) (by kernel_rfl) rfl rfl rfl rfl ?_
 intro Q b
 unfold p63 at h
 conv=>cbv
 refine and_h h (fun g=>(by subst hO;exact g)) (fun h=>?_)
 refine and_h h (fun g=>(by subst hO;exact g)) (fun h=>?_)
 refine⟨(by subst hO;exact Nat.le_refl _),?_⟩
 rw [b]
 exact⟨(nilE++x0),_,⟨(by subst hO;rfl),(by subst hO;rfl)⟩,h⟩
theorem d_p120 (fu:Nat){K0:EL→Prop}(L:EL→Nat)(hN:L=List.length){x0:EL}{x1:Int}(h:p120 False fu K0 x0 x1):Den Try.prog G0 120 [.c (.sl 1 x0 none),.c (.v (.int .i64 x1))] (fun r bs=>(∃ (y0:EL) (o0 o1:OV),(r=.arr 1 y0 none false (L y0)∧bs=[o0,o1])∧K0 y0)):=by
 obtain⟨O,hO⟩:∃ O,O=std 0 T G0 (Den Try.prog G0):=⟨_,rfl⟩
 have hLO:L=O.len:=by rw [hN,hO];rfl
 subst hLO
 refine den_h hO tiA mixed tabOk (fn:=Try.f120) (sh:=false) (by kernel_rfl) rfl rfl rfl rfl ?_
 intro Q b
 unfold p120 at h
 conv=>cbv
 refine and_h h (fun g=>(by subst hO;exact g)) (fun h=>?_)
 refine and_h h (fun g=>(by subst hO;exact g)) (fun h=>?_)
 refine and_h h (fun g=>(by subst hO;exact g)) (fun h=>?_)
 refine and_h h (fun g=>(by subst hO;exact g)) (fun h=>?_)
 refine and_h h (fun g=>(by subst hO;exact g)) (fun h=>?_)
 refine⟨(by subst hO;exact Nat.le_refl _),?_⟩
 rw [b]
 exact⟨((List.replicate ((0:Int).toNat) [(CV.v (.int .u8 0))])++x0),_,_,⟨(by subst hO;rfl),(by subst hO;rfl)⟩,h⟩
theorem d_p140 (fu:Nat){K0:EL→Prop}(L:EL→Nat)(hN:L=List.length){x0:EL}{x1:Int}(h:p140 False fu K0 x0 x1):Den Try.prog G0 140 [.c (.sl 1 x0 none),.c (.v (.int .u64 x1))] (fun r bs=>(∃ (y0:EL) (o0 o1:OV),(r=.c (.sl 1 y0 none)∧bs=[o0,o1])∧K0 y0)):=by
 obtain⟨O,hO⟩:∃ O,O=std 0 T G0 (Den Try.prog G0):=⟨_,rfl⟩
 have hLO:L=O.len:=by rw [hN,hO];rfl
 subst hLO
 refine den_h hO tiA mixed tabOk (fn:=Try.f140) (sh:=true) (by kernel_rfl) rfl rfl rfl rfl ?_
 intro Q b
 unfold p140 at h
 conv=>cbv
 refine z0c hO [.shut,.shut] (d_p120 fu O.len hN h) ?_
 intro e Q a b
 conv=>cbv
 refine⟨by subst a hO;rfl,?_⟩
 intro r bs d
 rw [b] at d
 clear a b h
 obtain⟨y1,_,_,⟨rfl,rfl⟩,h⟩:=d
 conv=>cbv
 refine z0r hO tiA [1,5] [8000] [] (fun (n:Nat) tm m=>∃ (z2:Int) (z3:EL),((tm=frame 0 23 [(1,.c (.v (.int .u64 z2))),(5,.t 8000 0 (O.len z3))]∧m=⟨[(8000,.arr 0 1 z3 none false)],1⟩))∧p140_1L False fu K0 n z2 z3) (fun n=>n) fu ⟨x1,y1,⟨(by (conv=>lhs;cbv)<;>(subst hO;rfl)),(by (conv=>lhs;cbv)<;>(subst hO;rfl))⟩,h⟩ ?_
 rintro n1 tm m L ⟨z2,z3,hs,h⟩ hLn1
 (cases n1 with
 | zero=>rw [p140_1L] at h;exact h.elim
 | succ n1 =>
 rw [p140_1L] at h
 unfold p140_1 at h
 obtain⟨rfl,rfl⟩:=hs
 conv=>cbv
 refine br_h hO h (by subst hO;rfl) (fun k1 h=>?_) (fun k1 h=>?_)
 conv=>cbv
 refine z0b hO ?_
 conv=>cbv
 refine alt_l hO ?_
 conv=>cbv
 refine z0t hO h (fun g=>(by subst hO;exact g)) (fun h=>?_)
 conv=>cbv
 refine⟨(by subst hO;rfl),?_⟩
 refine and_h h (fun g=>(by subst hO;exact g)) (fun h=>?_)
 refine and_h h (fun g=>(by subst hO;exact g)) (fun h=>?_)
 exact hLn1 n1 _ _ (Nat.lt_succ_self n1) ⟨z0d .shr .u64 z2 7,(z3++(List.take 1 [[(CV.v (.int .u8 (z0d .or .u8 (IntKind.u8.wrap z2) 128)))]])),⟨(by (conv=>lhs;cbv)<;>(subst hO;rfl)),(by (conv=>lhs;cbv)<;>(subst hO;rfl))⟩,h⟩
 conv=>cbv
 refine alt_l hO ?_
 conv=>cbv
 refine z0t hO h (fun g=>(by subst hO;exact g)) (fun h=>?_)
 conv=>cbv
 refine⟨(by subst hO;rfl),?_⟩
 refine and_h h (fun g=>(by subst hO;exact g)) (fun h=>?_)
 refine z0o hO ?_
 conv=>cbv
 rw [b]
 exact⟨(z3++(List.take 1 [[(CV.v (.int .u8 (IntKind.u8.wrap z2)))]])),_,_,⟨(by subst hO;rfl),(by subst hO;rfl)⟩,h⟩)
theorem d_p119 (fu:Nat){K0:EL→Prop}(L:EL→Nat)(hN:L=List.length){x0:EL}{x1:Int}(h:p119 False fu K0 x0 x1):Den Try.prog G0 119 [.ptr [.arr 1 x0 none false (L x0)],.c (.v (.int .u64 x1))] (fun r bs=>(∃ (y0:EL) (o1:OV),(r=.tup []∧bs=[.ptr [.arr 1 y0 none false (L y0)],o1])∧K0 y0)):=by
 obtain⟨O,hO⟩:∃ O,O=std 2 T G0 (Den Try.prog G0):=⟨_,rfl⟩
 have hLO:L=O.len:=by rw [hN,hO];rfl
 subst hLO
 refine den_h hO tiA mixed tabOk (fn:=Try.f119) (sh:=true) (by kernel_rfl) rfl rfl rfl rfl ?_
 intro Q b
 unfold p119 at h
 conv=>cbv
 refine z0h hO tiA [[],[],[],[]] [(0,true,false),(1,true,false),(2,true,false),(3,true,false),(4,true,false),(5,true,false),(6,false,false),(7,false,true),(8,true,true),(9,true,true),(10,false,true)] (by kernel_rfl) ?_
 conv=>cbv
 refine z0c hO [.shut,.shut] (d_p140 fu O.len hN h) ?_
 intro e Q a b
 conv=>cbv
 refine⟨by subst a hO;rfl,?_⟩
 intro r bs d
 rw [b] at d
 clear a b h
 obtain⟨y1,_,_,⟨rfl,rfl⟩,h⟩:=d
 conv=>cbv
 refine agr hO rfl rfl ?_
 refine⟨(by subst hO;rfl),?_⟩
 refine and_h h (fun g=>(by subst hO;exact g)) (fun h=>?_)
 refine z0b hO ?_
 conv=>cbv
 refine⟨(by subst hO;exact Nat.le_refl _),?_⟩
 rw [b]
 exact⟨(x0++y1),_,⟨(by subst hO;rfl),(by subst hO;rfl)⟩,h⟩
theorem d_p83 (fu:Nat){K0:EL→Prop}(L:EL→Nat)(hN:L=List.length){x0 x1:EL}(h:p83 False fu K0 x0 x1):Den Try.prog G0 83 [.ptr [.arr 1 x0 none false (L x0)],.c (.sl 1 x1 none)] (fun r bs=>(∃ (y0:EL) (o1:OV),(r=.tup []∧bs=[.ptr [.arr 1 y0 none false (L y0)],o1])∧K0 y0)):=by
 obtain⟨O,hO⟩:∃ O,O=std 2 T G0 (Den Try.prog G0):=⟨_,rfl⟩
 have hLO:L=O.len:=by rw [hN,hO];rfl
 subst hLO
 refine den_h hO tiA mixed tabOk (fn:=Try.f83) (sh:=true) (by kernel_rfl) rfl rfl rfl rfl ?_
 intro Q b
 unfold p83 at h
 conv=>cbv
 refine z0r hO tiA [0,6,7,8] [0,1000000] [] (fun (n:Nat) tm m=>∃ (z1:EL) (z2:Int) (z3:Int),((tm=frame 0 17 [(0,.p 0 1 0),(6,.c (.sl 1 x1 none)),(7,.c (.v (.int .i64 z2))),(8,.c (.v (.int .i64 z3)))]∧m=⟨[(0,.blk 1 [.t 1000000 2 (O.len z1)]),(1000000,.arr 2 1 z1 none false)],3⟩))∧p83_1L False fu K0 x1 n z1 z2 z3) (fun n=>n) fu ⟨x0,((x1.length:Nat):Int),0,⟨(by (conv=>lhs;cbv)<;>(subst hO;rfl)),(by (conv=>lhs;cbv)<;>(subst hO;rfl))⟩,h⟩ ?_
 rintro n1 tm m L ⟨z1,z2,z3,hs,h⟩ hLn1
 (cases n1 with
 | zero=>rw [p83_1L] at h;exact h.elim
 | succ n1 =>
 rw [p83_1L] at h
 unfold p83_1 at h
 obtain⟨rfl,rfl⟩:=hs
 conv=>cbv
 refine br_h hO h (by subst hO;rfl) (fun k1 h=>?_) (fun k1 h=>?_)
 conv=>cbv
 refine z0b hO ?_
 conv=>cbv
 refine and_h h (fun g=>(by subst hO;exact g)) (fun h=>?_)
 refine and_h h (fun g=>(by subst hO;exact g)) (fun h=>?_)
 obtain⟨c4,hr,h⟩:=w6o h
 refine z0m hO _ (by subst hO;exact hr) ?_
 clear hr
 conv=>cbv
 refine z0c hO [.ref 1,.shut] (d_p119 fu O.len hN h) ?_
 intro e Q a b
 conv=>cbv
 refine⟨(by subst hO;exact Nat.le_refl _),?_⟩
 refine⟨by subst a hO;rfl,?_⟩
 intro r bs d
 rw [b] at d
 clear a b h
 obtain⟨y5,_,⟨rfl,rfl⟩,h⟩:=d
 conv=>cbv
 exact hLn1 n1 _ _ (Nat.lt_succ_self n1) ⟨y5,z2,z0d .add .i64 z3 1,⟨(by (conv=>lhs;cbv)<;>(subst hO;rfl)),(by (conv=>lhs;cbv)<;>(subst hO;rfl))⟩,h⟩
 conv=>cbv
 refine⟨(by subst hO;exact Nat.le_refl _),?_⟩
 rw [b]
 exact⟨z1,_,⟨(by subst hO;rfl),(by subst hO;rfl)⟩,h⟩)
theorem d_p87 (fu:Nat){K0:EL→Prop}(L:EL→Nat)(hN:L=List.length){x0 x1:EL}(h:p87 False fu K0 x0 x1):Den Try.prog G0 87 [.ptr [.arr 1 x0 none false (L x0)],.c (.sl 1 x1 none)] (fun r bs=>(∃ (y0:EL) (o1:OV),(r=.tup []∧bs=[.ptr [.arr 1 y0 none false (L y0)],o1])∧K0 y0)):=by
 obtain⟨O,hO⟩:∃ O,O=std 2 T G0 (Den Try.prog G0):=⟨_,rfl⟩
 have hLO:L=O.len:=by rw [hN,hO];rfl
 subst hLO
 refine den_h hO tiA mixed tabOk (fn:=Try.f87) (sh:=true) (by kernel_rfl) rfl rfl rfl rfl ?_
 intro Q b
 unfold p87 at h
 conv=>cbv
 refine z0c hO [.ref 1,.shut] (d_p119 fu O.len hN h) ?_
 intro e Q a b
 conv=>cbv
 refine⟨(by subst hO;exact Nat.le_refl _),?_⟩
 refine⟨by subst a hO;rfl,?_⟩
 intro r bs d
 rw [b] at d
 clear a b h
 obtain⟨y1,_,⟨rfl,rfl⟩,h⟩:=d
 conv=>cbv
 refine⟨(by subst hO;rfl),?_⟩
 refine and_h h (fun g=>(by subst hO;exact g)) (fun h=>?_)
 refine⟨(by subst hO;exact Nat.le_refl _),?_⟩
 rw [b]
 exact⟨(y1++x1),_,⟨(by subst hO;rfl),(by subst hO;rfl)⟩,h⟩
def D_p70 (fu:Nat):Prop:=∀ {K0:EL→Prop} (L:EL→Nat) (_:L=List.length) {x0:EL} {x1 x2:Int} {x3:EL} (_:p70 False fu K0 x0 x1 x2 x3),Den Try.prog G0 70 [.ptr [.arr 1 x0 none false (L x0)],.agg [.c (.v (.int .i64 x1)),.c (.v (.int .i64 x2)),.c (.sl 3 x3 none)]] (fun r bs=>(∃ (y0:EL) (o1:OV),(r=.tup []∧bs=[.ptr [.arr 1 y0 none false (L y0)],o1])∧K0 y0))
theorem b_p70 (fu:Nat)(ih_p70:D_p70 fu){K0:EL→Prop}(L:EL→Nat)(hN:L=List.length){x0:EL}{x1 x2:Int}{x3:EL}(h:p70_b False fu (p70 False fu) K0 x0 x1 x2 x3):Den Try.prog G0 70 [.ptr [.arr 1 x0 none false (L x0)],.agg [.c (.v (.int .i64 x1)),.c (.v (.int .i64 x2)),.c (.sl 3 x3 none)]] (fun r bs=>(∃ (y0:EL) (o1:OV),(r=.tup []∧bs=[.ptr [.arr 1 y0 none false (L y0)],o1])∧K0 y0)):=by
 obtain⟨O,hO⟩:∃ O,O=std 2 T G0 (Den Try.prog G0):=⟨_,rfl⟩
 have hLO:L=O.len:=by rw [hN,hO];rfl
 subst hLO
 refine den_h hO tiA mixed tabOk (fn:=Try.f70) (sh:=true) (by kernel_rfl) rfl rfl rfl rfl ?_
 intro Q b
 unfold p70_b at h
 conv=>cbv
 have hz:=z0q h
 have k4:=hz.1
 replace h:=hz.2
 clear hz
 refine z0c hO [.ref 1,.shut] (d_p83 fu O.len hN h) ?_
 intro e Q a b
 conv=>cbv
 refine⟨(by subst hO;exact Nat.le_refl _),?_⟩
 refine z0s hO (by subst hO;exact k4) ?_
 conv=>cbv
 refine⟨by subst a hO;rfl,?_⟩
 intro r bs d
 rw [b] at d
 clear a b h
 obtain⟨y1,_,⟨rfl,rfl⟩,h⟩:=d
 conv=>cbv
 refine z0f hO tiA h (by subst hO;rfl) [0,3] [0,4000,1000000] [] (fun tm m=>∃ (j2:EL),((tm=frame 0 30 [(0,.p 0 1 0),(3,.p 4000 2 0)]∧m=⟨[(0,.blk 1 [.t 1000000 2 (O.len j2)]),(4000,.blk 2 [.c (.v (.int .i64 x1)),.c (.v (.int .i64 x2)),.c (.sl 3 x3 none)]),(1000000,.arr 2 1 j2 none false)],3⟩))∧p70_2 False fu (p70 False fu) K0 x3 j2) (fun k2 h L hL_2=>?_) (fun k2 h L hL_2=>?_) ?_
 conv=>cbv
 have hz:=z0q h
 have k3:=hz.1
 replace h:=hz.2
 clear hz
 refine z0c hO [.ref 1,.shut] (d_p83 fu O.len hN h) ?_
 intro e Q a b
 conv=>cbv
 refine⟨(by subst hO;exact Nat.le_refl _),?_⟩
 refine z0s hO (by subst hO;exact k3) ?_
 conv=>cbv
 refine⟨by subst a hO;rfl,?_⟩
 intro r bs d
 rw [b] at d
 clear a b h
 obtain⟨y10,_,⟨rfl,rfl⟩,h⟩:=d
 conv=>cbv
 exact hL_2 _ _ ⟨y10,⟨(by (conv=>lhs;cbv)<;>(subst hO;rfl)),(by (conv=>lhs;cbv)<;>(subst hO;rfl))⟩,h⟩
 conv=>cbv
 exact hL_2 _ _ ⟨y1,⟨(by (conv=>lhs;cbv)<;>(subst hO;rfl)),(by (conv=>lhs;cbv)<;>(subst hO;rfl))⟩,h⟩
 rintro tm m ⟨j2,hs,h⟩
 unfold p70_2 at h
 obtain⟨rfl,rfl⟩:=hs
 conv=>cbv
 refine z0r hO tiA [0,20,21,22] [0,1000000] [] (fun (n:Nat) tm m=>∃ (z3:EL) (z4:Int) (z5:Int),((tm=frame 0 30 [(0,.p 0 1 0),(20,.c (.sl 3 x3 none)),(21,.c (.v (.int .i64 z4))),(22,.c (.v (.int .i64 z5)))]∧m=⟨[(0,.blk 1 [.t 1000000 2 (O.len z3)]),(1000000,.arr 2 1 z3 none false)],3⟩))∧p70_1L False fu (p70 False fu) K0 x3 n z3 z4 z5) (fun n=>n) fu ⟨j2,((x3.length:Nat):Int),0,⟨(by (conv=>lhs;cbv)<;>(subst hO;rfl)),(by (conv=>lhs;cbv)<;>(subst hO;rfl))⟩,h⟩ ?_
 rintro n1 tm m L ⟨z3,z4,z5,hs,h⟩ hLn1
 (cases n1 with
 | zero=>rw [p70_1L] at h;exact h.elim
 | succ n1 =>
 rw [p70_1L] at h
 unfold p70_1 at h
 obtain⟨rfl,rfl⟩:=hs
 conv=>cbv
 refine br_h hO h (by subst hO;rfl) (fun k1 h=>?_) (fun k1 h=>?_)
 conv=>cbv
 refine z0b hO ?_
 conv=>cbv
 refine and_h h (fun g=>(by subst hO;exact g)) (fun h=>?_)
 refine and_h h (fun g=>(by subst hO;exact g)) (fun h=>?_)
 obtain⟨c6,c7,c8,hr,h⟩:=z0j h
 refine z0m hO _ (by subst hO;exact hr) ?_
 clear hr
 conv=>cbv
 refine z0c hO [.ref 1,.shut] (ih_p70 O.len hN h) ?_
 intro e Q a b
 conv=>cbv
 refine⟨(by subst hO;exact Nat.le_refl _),?_⟩
 refine⟨by subst a hO;rfl,?_⟩
 intro r bs d
 rw [b] at d
 clear a b h
 obtain⟨y9,_,⟨rfl,rfl⟩,h⟩:=d
 conv=>cbv
 exact hLn1 n1 _ _ (Nat.lt_succ_self n1) ⟨y9,z4,z0d .add .i64 z5 1,⟨(by (conv=>lhs;cbv)<;>(subst hO;rfl)),(by (conv=>lhs;cbv)<;>(subst hO;rfl))⟩,h⟩
 conv=>cbv
 refine⟨(by subst hO;exact Nat.le_refl _),?_⟩
 rw [b]
 exact⟨z3,_,⟨(by subst hO;rfl),(by subst hO;rfl)⟩,h⟩)
theorem dd_p70 (fu:Nat):D_p70 fu:=by
 induction fu with
 | zero=>unfold D_p70;intros;rename_i h;rw [p70] at h;exact h.elim
 | succ n ih =>
  exact (by unfold D_p70;intro K0 L hN x0 x1 x2 x3 h;exact b_p70 n ih L hN (by rw [p70] at h;exact h))
theorem d_p70 (fu:Nat):D_p70 fu:=dd_p70 fu
def D_p64 (fu:Nat):Prop:=∀ {K0:EL→Prop} (L:EL→Nat) (_:L=List.length) {x0:EL} {x1 x2:Int} {x3:ByteArray} {x4 x5:EL} (_:p64 False fu K0 x0 x1 x2 x3 x4 x5),Den Try.prog G0 64 [.ptr [.arr 1 x0 none false (L x0)],.agg [.c (.v (.int .i64 x1)),.c (.v (.int .i64 x2)),.c (.v (.string x3)),.c (.sl 3 x4 none),.c (.sl 5 x5 none)]] (fun r bs=>(∃ (y0:EL) (o1:OV),(r=.tup []∧bs=[.ptr [.arr 1 y0 none false (L y0)],o1])∧K0 y0))
theorem b_p64 (fu:Nat)(ih_p64:D_p64 fu){K0:EL→Prop}(L:EL→Nat)(hN:L=List.length){x0:EL}{x1 x2:Int}{x3:ByteArray}{x4 x5:EL}(h:p64_b False fu (p64 False fu) K0 x0 x1 x2 x3 x4 x5):Den Try.prog G0 64 [.ptr [.arr 1 x0 none false (L x0)],.agg [.c (.v (.int .i64 x1)),.c (.v (.int .i64 x2)),.c (.v (.string x3)),.c (.sl 3 x4 none),.c (.sl 5 x5 none)]] (fun r bs=>(∃ (y0:EL) (o1:OV),(r=.tup []∧bs=[.ptr [.arr 1 y0 none false (L y0)],o1])∧K0 y0)):=by
 obtain⟨O,hO⟩:∃ O,O=std 2 T G0 (Den Try.prog G0):=⟨_,rfl⟩
 have hLO:L=O.len:=by rw [hN,hO];rfl
 subst hLO
 refine den_h hO tiA mixed tabOk (fn:=Try.f64) (sh:=true) (by kernel_rfl) rfl rfl rfl rfl ?_
 intro Q b
 unfold p64_b at h
 conv=>cbv
 have hz:=z0q h
 have k8:=hz.1
 replace h:=hz.2
 clear hz
 refine z0c hO [.ref 1,.shut] (d_p83 fu O.len hN h) ?_
 intro e Q a b
 conv=>cbv
 refine⟨(by subst hO;exact Nat.le_refl _),?_⟩
 refine z0s hO (by subst hO;exact k8) ?_
 conv=>cbv
 refine⟨by subst a hO;rfl,?_⟩
 intro r bs d
 rw [b] at d
 clear a b h
 obtain⟨y1,_,⟨rfl,rfl⟩,h⟩:=d
 conv=>cbv
 refine z0f hO tiA h (by subst hO;rfl) [0,3] [0,4000,1000000] [] (fun tm m=>∃ (j2:EL),((tm=frame 0 57 [(0,.p 0 1 0),(3,.p 4000 2 0)]∧m=⟨[(0,.blk 1 [.t 1000000 2 (O.len j2)]),(4000,.blk 2 [.c (.v (.int .i64 x1)),.c (.v (.int .i64 x2)),.c (.v (.string x3)),.c (.sl 3 x4 none),.c (.sl 5 x5 none)]),(1000000,.arr 2 1 j2 none false)],3⟩))∧p64_3 False fu (p64 False fu) K0 x4 x5 j2) (fun k3 h L hL_3=>?_) (fun k3 h L hL_3=>?_) ?_
 conv=>cbv
 have hz:=z0q h
 have k4:=hz.1
 replace h:=hz.2
 clear hz
 refine z0c hO [.ref 1,.shut] (d_p83 fu O.len hN h) ?_
 intro e Q a b
 conv=>cbv
 refine⟨(by subst hO;exact Nat.le_refl _),?_⟩
 refine z0s hO (by subst hO;exact k4) ?_
 conv=>cbv
 refine⟨by subst a hO;rfl,?_⟩
 intro r bs d
 rw [b] at d
 clear a b h
 obtain⟨y19,_,⟨rfl,rfl⟩,h⟩:=d
 conv=>cbv
 exact hL_3 _ _ ⟨y19,⟨(by (conv=>lhs;cbv)<;>(subst hO;rfl)),(by (conv=>lhs;cbv)<;>(subst hO;rfl))⟩,h⟩
 conv=>cbv
 refine z0f hO tiA h (by subst hO;rfl) [0,3] [0,4000,1000000] [] (fun tm m=>∃ (j20:EL),((tm=frame 0 57 [(0,.p 0 1 0),(3,.p 4000 2 0)]∧m=⟨[(0,.blk 1 [.t 1000000 2 (O.len j20)]),(4000,.blk 2 [.c (.v (.int .i64 x1)),.c (.v (.int .i64 x2)),.c (.v (.string x3)),.c (.sl 3 x4 none),.c (.sl 5 x5 none)]),(1000000,.arr 2 1 j20 none false)],3⟩))∧p64_4 False fu (p64 False fu) K0 x4 x5 j20) (fun k5 h L hL_4=>?_) (fun k5 h L hL_4=>?_) ?_
 conv=>cbv
 have hz:=z0q h
 have k7:=hz.1
 replace h:=hz.2
 clear hz
 refine z0c hO [.ref 1,.shut] (d_p87 fu O.len hN h) ?_
 intro e Q a b
 conv=>cbv
 refine⟨(by subst hO;exact Nat.le_refl _),?_⟩
 refine z0s hO (by subst hO;exact k7) ?_
 conv=>cbv
 refine⟨by subst a hO;rfl,?_⟩
 intro r bs d
 rw [b] at d
 clear a b h
 obtain⟨y21,_,⟨rfl,rfl⟩,h⟩:=d
 conv=>cbv
 have hz:=z0q h
 have k6:=hz.1
 replace h:=hz.2
 clear hz
 refine z0c hO [.ref 1,.shut] (d_p83 fu O.len hN h) ?_
 intro e Q a b
 conv=>cbv
 refine⟨(by subst hO;exact Nat.le_refl _),?_⟩
 refine z0s hO (by subst hO;exact k6) ?_
 conv=>cbv
 refine⟨by subst a hO;rfl,?_⟩
 intro r bs d
 rw [b] at d
 clear a b h
 obtain⟨y22,_,⟨rfl,rfl⟩,h⟩:=d
 conv=>cbv
 exact hL_4 _ _ ⟨y22,⟨(by (conv=>lhs;cbv)<;>(subst hO;rfl)),(by (conv=>lhs;cbv)<;>(subst hO;rfl))⟩,h⟩
 conv=>cbv
 exact hL_4 _ _ ⟨y1,⟨(by (conv=>lhs;cbv)<;>(subst hO;rfl)),(by (conv=>lhs;cbv)<;>(subst hO;rfl))⟩,h⟩
 rintro tm m ⟨j20,hs,h⟩
 unfold p64_4 at h
 obtain⟨rfl,rfl⟩:=hs
 conv=>cbv
 exact hL_3 _ _ ⟨j20,⟨(by (conv=>lhs;cbv)<;>(subst hO;rfl)),(by (conv=>lhs;cbv)<;>(subst hO;rfl))⟩,h⟩
 rintro tm m ⟨j2,hs,h⟩
 unfold p64_3 at h
 obtain⟨rfl,rfl⟩:=hs
 conv=>cbv
 refine z0r hO tiA [0,3,36,37,38] [0,4000,1000000] [] (fun (n:Nat) tm m=>∃ (z3:EL) (z4:Int) (z5:Int),((tm=frame 0 57 [(0,.p 0 1 0),(3,.p 4000 2 0),(36,.c (.sl 3 x4 none)),(37,.c (.v (.int .i64 z4))),(38,.c (.v (.int .i64 z5)))]∧m=⟨[(0,.blk 1 [.t 1000000 2 (O.len z3)]),(4000,.blk 2 [.c (.v (.int .i64 x1)),.c (.v (.int .i64 x2)),.c (.v (.string x3)),.c (.sl 3 x4 none),.c (.sl 5 x5 none)]),(1000000,.arr 2 1 z3 none false)],3⟩))∧p64_2L False fu (p64 False fu) K0 x4 x5 n z3 z4 z5) (fun n=>n) fu ⟨j2,((x4.length:Nat):Int),0,⟨(by (conv=>lhs;cbv)<;>(subst hO;rfl)),(by (conv=>lhs;cbv)<;>(subst hO;rfl))⟩,h⟩ ?_
 rintro n1 tm m L ⟨z3,z4,z5,hs,h⟩ hLn1
 (cases n1 with
 | zero=>rw [p64_2L] at h;exact h.elim
 | succ n1 =>
 rw [p64_2L] at h
 unfold p64_2 at h
 obtain⟨rfl,rfl⟩:=hs
 conv=>cbv
 refine br_h hO h (by subst hO;rfl) (fun k1 h=>?_) (fun k1 h=>?_)
 conv=>cbv
 refine z0b hO ?_
 conv=>cbv
 refine and_h h (fun g=>(by subst hO;exact g)) (fun h=>?_)
 refine and_h h (fun g=>(by subst hO;exact g)) (fun h=>?_)
 obtain⟨c6,c7,c8,hr,h⟩:=z0j h
 refine z0m hO _ (by subst hO;exact hr) ?_
 clear hr
 conv=>cbv
 refine z0c hO [.ref 1,.shut] (d_p70 fu O.len hN h) ?_
 intro e Q a b
 conv=>cbv
 refine⟨(by subst hO;exact Nat.le_refl _),?_⟩
 refine⟨by subst a hO;rfl,?_⟩
 intro r bs d
 rw [b] at d
 clear a b h
 obtain⟨y9,_,⟨rfl,rfl⟩,h⟩:=d
 conv=>cbv
 exact hLn1 n1 _ _ (Nat.lt_succ_self n1) ⟨y9,z4,z0d .add .i64 z5 1,⟨(by (conv=>lhs;cbv)<;>(subst hO;rfl)),(by (conv=>lhs;cbv)<;>(subst hO;rfl))⟩,h⟩
 conv=>cbv
 refine z0r hO tiA [0,47,48,49] [0,1000000] [] (fun (n:Nat) tm m=>∃ (z10:EL) (z11:Int) (z12:Int),((tm=frame 0 57 [(0,.p 0 1 0),(47,.c (.sl 5 x5 none)),(48,.c (.v (.int .i64 z11))),(49,.c (.v (.int .i64 z12)))]∧m=⟨[(0,.blk 1 [.t 1000000 2 (O.len z10)]),(1000000,.arr 2 1 z10 none false)],3⟩))∧p64_1L False fu (p64 False fu) K0 x5 n z10 z11 z12) (fun n=>n) fu ⟨z3,((x5.length:Nat):Int),0,⟨(by (conv=>lhs;cbv)<;>(subst hO;rfl)),(by (conv=>lhs;cbv)<;>(subst hO;rfl))⟩,h⟩ ?_
 rintro n2 tm m L ⟨z10,z11,z12,hs,h⟩ hLn2
 (cases n2 with
 | zero=>rw [p64_1L] at h;exact h.elim
 | succ n2 =>
 rw [p64_1L] at h
 unfold p64_1 at h
 obtain⟨rfl,rfl⟩:=hs
 conv=>cbv
 refine br_h hO h (by subst hO;rfl) (fun k2 h=>?_) (fun k2 h=>?_)
 conv=>cbv
 refine z0b hO ?_
 conv=>cbv
 refine and_h h (fun g=>(by subst hO;exact g)) (fun h=>?_)
 refine and_h h (fun g=>(by subst hO;exact g)) (fun h=>?_)
 obtain⟨c13,c14,c15,c16,c17,hr,h⟩:=z0e h
 refine z0m hO _ (by subst hO;exact hr) ?_
 clear hr
 conv=>cbv
 refine z0c hO [.ref 1,.shut] (ih_p64 O.len hN h) ?_
 intro e Q a b
 conv=>cbv
 refine⟨(by subst hO;exact Nat.le_refl _),?_⟩
 refine⟨by subst a hO;rfl,?_⟩
 intro r bs d
 rw [b] at d
 clear a b h
 obtain⟨y18,_,⟨rfl,rfl⟩,h⟩:=d
 conv=>cbv
 exact hLn2 n2 _ _ (Nat.lt_succ_self n2) ⟨y18,z11,z0d .add .i64 z12 1,⟨(by (conv=>lhs;cbv)<;>(subst hO;rfl)),(by (conv=>lhs;cbv)<;>(subst hO;rfl))⟩,h⟩
 conv=>cbv
 refine⟨(by subst hO;exact Nat.le_refl _),?_⟩
 rw [b]
 exact⟨z10,_,⟨(by subst hO;rfl),(by subst hO;rfl)⟩,h⟩))
theorem dd_p64 (fu:Nat):D_p64 fu:=by
 induction fu with
 | zero=>unfold D_p64;intros;rename_i h;rw [p64] at h;exact h.elim
 | succ n ih =>
  exact (by unfold D_p64;intro K0 L hN x0 x1 x2 x3 x4 x5 h;exact b_p64 n ih L hN (by rw [p64] at h;exact h))
theorem d_p64 (fu:Nat):D_p64 fu:=dd_p64 fu
theorem d_p17 (fu:Nat){K0:EL→Prop}(L:EL→Nat)(hN:L=List.length){x0:EL}{x1 x2:Int}{x3:ByteArray}{x4 x5:EL}(h:p17 False fu K0 x0 x1 x2 x3 x4 x5):Den Try.prog G0 17 [.c (.sl 1 x0 none),.agg [.c (.v (.int .i64 x1)),.c (.v (.int .i64 x2)),.c (.v (.string x3)),.c (.sl 3 x4 none),.c (.sl 5 x5 none)]] (fun r bs=>(∃ (y0:EL) (o0 o1:OV),(r=.arr 1 y0 none false (L y0)∧bs=[o0,o1])∧K0 y0)):=by
 obtain⟨O,hO⟩:∃ O,O=std 0 T G0 (Den Try.prog G0):=⟨_,rfl⟩
 have hLO:L=O.len:=by rw [hN,hO];rfl
 subst hLO
 refine den_h hO tiA mixed tabOk (fn:=Try.f17) (sh:=false) (by kernel_rfl) rfl rfl rfl rfl ?_
 intro Q b
 unfold p17 at h
 conv=>cbv
 refine z0c hO [.shut] (d_p63 fu O.len hN h) ?_
 intro e Q a b
 conv=>cbv
 refine⟨by subst a hO;rfl,?_⟩
 intro r bs d
 rw [b] at d
 clear a b h
 obtain⟨y1,_,⟨rfl,rfl⟩,h⟩:=d
 conv=>cbv
 refine z0c hO [.ref 1,.shut] (d_p64 fu O.len hN h) ?_
 intro e Q a b
 conv=>cbv
 refine⟨(by subst hO;exact Nat.le_refl _),?_⟩
 refine⟨by subst a hO;rfl,?_⟩
 intro r bs d
 rw [b] at d
 clear a b h
 obtain⟨y2,_,⟨rfl,rfl⟩,h⟩:=d
 conv=>cbv
 refine⟨(by subst hO;exact Nat.le_refl _),?_⟩
 rw [b]
 exact⟨y2,_,_,⟨(by subst hO;rfl),(by subst hO;rfl)⟩,h⟩
def p26 {ρ:Type} (fail:ρ) (fu:Nat) (K0:EL→ρ) (x0:EL) (x1 x2:Int) (x3:EL):ρ :=
 p63 fail fu (fun y1=>p70 fail fu (fun y2=>K0 y2) y1 x1 x2 x3) x0
theorem d_p26 (fu:Nat){K0:EL→Prop}(L:EL→Nat)(hN:L=List.length){x0:EL}{x1 x2:Int}{x3:EL}(h:p26 False fu K0 x0 x1 x2 x3):Den Try.prog G0 26 [.c (.sl 1 x0 none),.agg [.c (.v (.int .i64 x1)),.c (.v (.int .i64 x2)),.c (.sl 3 x3 none)]] (fun r bs=>(∃ (y0:EL) (o0 o1:OV),(r=.arr 1 y0 none false (L y0)∧bs=[o0,o1])∧K0 y0)):=by
 obtain⟨O,hO⟩:∃ O,O=std 0 T G0 (Den Try.prog G0):=⟨_,rfl⟩
 have hLO:L=O.len:=by rw [hN,hO];rfl
 subst hLO
 refine den_h hO tiA mixed tabOk (fn:=Try.f26) (sh:=false) (by kernel_rfl) rfl rfl rfl rfl ?_
 intro Q b
 unfold p26 at h
 conv=>cbv
 refine z0c hO [.shut] (d_p63 fu O.len hN h) ?_
 intro e Q a b
 conv=>cbv
 refine⟨by subst a hO;rfl,?_⟩
 intro r bs d
 rw [b] at d
 clear a b h
 obtain⟨y1,_,⟨rfl,rfl⟩,h⟩:=d
 conv=>cbv
 refine z0c hO [.ref 1,.shut] (d_p70 fu O.len hN h) ?_
 intro e Q a b
 conv=>cbv
 refine⟨(by subst hO;exact Nat.le_refl _),?_⟩
 refine⟨by subst a hO;rfl,?_⟩
 intro r bs d
 rw [b] at d
 clear a b h
 obtain⟨y2,_,⟨rfl,rfl⟩,h⟩:=d
 conv=>cbv
 refine⟨(by subst hO;exact Nat.le_refl _),?_⟩
 rw [b]
 exact⟨y2,_,_,⟨(by subst hO;rfl),(by subst hO;rfl)⟩,h⟩
end Go.Proofs.Ythncmjlcmlmnmaa
