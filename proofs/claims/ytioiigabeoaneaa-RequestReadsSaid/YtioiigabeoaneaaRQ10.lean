/- A part of the proof. Conditions: none. -/
import Derived.Test.YtioiigabeoaneaaRQ8
import Derived.Test.YtioiigabeoaneaaRQ5
import Derived.Test.YtioiigabeoaneaaRQ9
namespace Go.Proofs.Ytioiigabeoaneaa
open Go V
set_option maxRecDepth 100000
set_option maxHeartbeats 4000000
def D_p43 (fu:Nat):Prop:=∀ {K0:Int→Int→ByteArray→EL→EL→EL→Int→Int→Prop} (L:EL→Nat) (_:L=List.length) {x0:EL} {x1 x2 x3:Int} (_:p43 False fu K0 x0 x1 x2 x3),Den Try.prog G0 43 [.ptr [.c (.sl 1 x0 none),.c (.v (.int .i64 x1))],.c (.v (.int .i64 x2)),.ptr [.c (.v (.int .i64 x3))]] (fun r bs=>(∃ (y0 y1:Int) (y2:ByteArray) (y3 y4 y5:EL) (y6 y7:Int) (o1:OV),(r=.agg [.c (.v (.int .i64 y0)),.c (.v (.int .i64 y1)),.c (.v (.string y2)),.c (.sl 3 y3 none),.c (.sl 5 y4 none)]∧bs=[.ptr [.c (.sl 1 y5 none),.c (.v (.int .i64 y6))],o1,.ptr [.c (.v (.int .i64 y7))]])∧K0 y0 y1 y2 y3 y4 y5 y6 y7))
theorem b_p43 (fu:Nat)(ih_p43:D_p43 fu){K0:Int→Int→ByteArray→EL→EL→EL→Int→Int→Prop}(L:EL→Nat)(hN:L=List.length){x0:EL}{x1 x2 x3:Int}(h:p43_b False fu (p43 False fu) K0 x0 x1 x2 x3):Den Try.prog G0 43 [.ptr [.c (.sl 1 x0 none),.c (.v (.int .i64 x1))],.c (.v (.int .i64 x2)),.ptr [.c (.v (.int .i64 x3))]] (fun r bs=>(∃ (y0 y1:Int) (y2:ByteArray) (y3 y4 y5:EL) (y6 y7:Int) (o1:OV),(r=.agg [.c (.v (.int .i64 y0)),.c (.v (.int .i64 y1)),.c (.v (.string y2)),.c (.sl 3 y3 none),.c (.sl 5 y4 none)]∧bs=[.ptr [.c (.sl 1 y5 none),.c (.v (.int .i64 y6))],o1,.ptr [.c (.v (.int .i64 y7))]])∧K0 y0 y1 y2 y3 y4 y5 y6 y7)):=by
 obtain⟨O,hO⟩:∃ O,O=std 2 T G0 (Den Try.prog G0):=⟨_,rfl⟩
 have hLO:L=O.len:=by rw [hN,hO];rfl
 subst hLO
 refine den_h hO tiA mixed tabOk (fn:=Try.f43) (sh:=true) (by kernel_rfl) rfl rfl rfl rfl ?_
 intro Q b
 unfold p43_b at h
 conv=>cbv
 refine z0d hO [.ref 2,.ref 1,.shut,.shut,.shut] (d_p61 fu O.len hN h) ?_
 intro e Q a b
 conv=>cbv
 refine⟨by subst a hO;rfl,?_⟩
 intro r bs d
 rw [b] at d
 clear a b h
 obtain⟨y1,y2,y3,_,_,_,⟨rfl,rfl⟩,h⟩:=d
 conv=>cbv
 refine br_h hO h (by subst hO;rfl) (fun k1 h=>?_) (fun k1 h=>?_)
 conv=>cbv
 rw [b]
 exact⟨0,0,⟨#[]⟩,nilE,nilE,y1,y2,y3,_,⟨(by subst hO;rfl),(by subst hO;rfl)⟩,h⟩
 conv=>cbv
 refine z0b hO ?_
 conv=>cbv
 refine z0d hO [.ref 2,.shut,.shut] (d_p13 fu O.len hN h) ?_
 intro e Q a b
 conv=>cbv
 refine⟨by subst a hO;rfl,?_⟩
 intro r bs d
 rw [b] at d
 clear a b h
 obtain⟨y4,y5,y6,_,_,⟨rfl,rfl⟩,h⟩:=d
 conv=>cbv
 refine z0e hO tiA h (by subst hO;rfl) [0,1,2,6,7,8,9] [0,1,7000,8000] [] (fun tm m=>∃ (j7:EL) (j8:Int) (j9:Int) (j10:ByteArray) (j11:Int) (j12:Int),((tm=frame 0 84 [(0,.p 0 0 0),(1,.c (.v (.int .i64 x2))),(2,.p 1 1 0),(6,.p 7000 2 0),(7,.p 8000 2 0),(8,.c (.v (.int .i64 j11))),(9,.c (.v (.int .i64 j12)))]∧m=⟨[(0,.blk 0 [.c (.sl 1 j7 none),.c (.v (.int .i64 j8))]),(1,.blk 1 [.c (.v (.int .i64 y3))]),(7000,.blk 2 [.c (.v (.int .i64 0)),.c (.v (.int .i64 0)),.c (.v (.string ⟨#[]⟩)),.c (.sl 3 [] (some [])),.c (.sl 5 [] (some []))]),(8000,.blk 2 [.c (.v (.int .i64 y4)),.c (.v (.int .i64 j9)),.c (.v (.string j10)),.c (.sl 3 [] (some [])),.c (.sl 5 [] (some []))])],3⟩))∧p43_3 False fu (p43 False fu) K0 x2 y3 y4 j7 j8 j9 j10 j11 j12) (fun k6 h L hL_3=>?_) (fun k6 h L hL_3=>?_) ?_
 conv=>cbv
 refine z0d hO [.ref 2] (d_p16 fu O.len hN h) ?_
 intro e Q a b
 conv=>cbv
 refine⟨by subst a hO;rfl,?_⟩
 intro r bs d
 rw [b] at d
 clear a b h
 obtain⟨y35,y36,y37,⟨rfl,rfl⟩,h⟩:=d
 conv=>cbv
 exact hL_3 _ _ ⟨y36,y37,y35,⟨#[]⟩,0,0,⟨(by (conv=>lhs;cbv)<;>(subst hO;rfl)),(by (conv=>lhs;cbv)<;>(subst hO;rfl))⟩,h⟩
 conv=>cbv
 refine z0e hO tiA h (by subst hO;rfl) [0,1,2,6,7,8,9] [0,1,7000,8000] [] (fun tm m=>∃ (j38:EL) (j39:Int) (j40:ByteArray) (j41:Int) (j42:Int),((tm=frame 0 84 [(0,.p 0 0 0),(1,.c (.v (.int .i64 x2))),(2,.p 1 1 0),(6,.p 7000 2 0),(7,.p 8000 2 0),(8,.c (.v (.int .i64 j41))),(9,.c (.v (.int .i64 j42)))]∧m=⟨[(0,.blk 0 [.c (.sl 1 j38 none),.c (.v (.int .i64 j39))]),(1,.blk 1 [.c (.v (.int .i64 y3))]),(7000,.blk 2 [.c (.v (.int .i64 0)),.c (.v (.int .i64 0)),.c (.v (.string ⟨#[]⟩)),.c (.sl 3 [] (some [])),.c (.sl 5 [] (some []))]),(8000,.blk 2 [.c (.v (.int .i64 y4)),.c (.v (.int .i64 0)),.c (.v (.string j40)),.c (.sl 3 [] (some [])),.c (.sl 5 [] (some []))])],3⟩))∧p43_4 False fu (p43 False fu) K0 x2 y3 y4 j38 j39 j40 j41 j42) (fun k7 h L hL_4=>?_) (fun k7 h L hL_4=>?_) ?_
 conv=>cbv
 exact hL_4 _ _ ⟨y5,y6,⟨#[]⟩,0,1,⟨(by (conv=>lhs;cbv)<;>(subst hO;rfl)),(by (conv=>lhs;cbv)<;>(subst hO;rfl))⟩,h⟩
 conv=>cbv
 refine z0e hO tiA h (by subst hO;rfl) [0,1,2,6,7,8,9] [0,1,7000,8000] [] (fun tm m=>∃ (j43:EL) (j44:Int) (j45:ByteArray) (j46:Int) (j47:Int),((tm=frame 0 84 [(0,.p 0 0 0),(1,.c (.v (.int .i64 x2))),(2,.p 1 1 0),(6,.p 7000 2 0),(7,.p 8000 2 0),(8,.c (.v (.int .i64 j46))),(9,.c (.v (.int .i64 j47)))]∧m=⟨[(0,.blk 0 [.c (.sl 1 j43 none),.c (.v (.int .i64 j44))]),(1,.blk 1 [.c (.v (.int .i64 y3))]),(7000,.blk 2 [.c (.v (.int .i64 0)),.c (.v (.int .i64 0)),.c (.v (.string ⟨#[]⟩)),.c (.sl 3 [] (some [])),.c (.sl 5 [] (some []))]),(8000,.blk 2 [.c (.v (.int .i64 y4)),.c (.v (.int .i64 0)),.c (.v (.string j45)),.c (.sl 3 [] (some [])),.c (.sl 5 [] (some []))])],3⟩))∧p43_5 False fu (p43 False fu) K0 x2 y3 y4 j43 j44 j45 j46 j47) (fun k8 h L hL_5=>?_) (fun k8 h L hL_5=>?_) ?_
 conv=>cbv
 refine z0d hO [.ref 2,.shut] (d_p20 fu O.len hN h) ?_
 intro e Q a b
 conv=>cbv
 refine⟨by subst a hO;rfl,?_⟩
 intro r bs d
 rw [b] at d
 clear a b h
 obtain⟨y48,y49,y50,_,⟨rfl,rfl⟩,h⟩:=d
 conv=>cbv
 refine tob_h hO h (by subst hO;rfl) (fun s51 h=>?_)
 conv=>cbv
 refine z0d hO [.ref 2] (d_p16 fu O.len hN h) ?_
 intro e Q a b
 conv=>cbv
 refine⟨by subst a hO;rfl,?_⟩
 intro r bs d
 rw [b] at d
 clear a b h
 obtain⟨y52,y53,y54,⟨rfl,rfl⟩,h⟩:=d
 conv=>cbv
 refine z0e hO tiA h (by subst hO;rfl) [0,1,2,6,7,8,9] [0,1,7000,8000] [] (fun tm m=>∃ (j55:EL) (j56:Int),((tm=frame 0 84 [(0,.p 0 0 0),(1,.c (.v (.int .i64 x2))),(2,.p 1 1 0),(6,.p 7000 2 0),(7,.p 8000 2 0),(8,.c (.v (.int .i64 0))),(9,.c (.v (.int .i64 y52)))]∧m=⟨[(0,.blk 0 [.c (.sl 1 j55 none),.c (.v (.int .i64 j56))]),(1,.blk 1 [.c (.v (.int .i64 y3))]),(7000,.blk 2 [.c (.v (.int .i64 0)),.c (.v (.int .i64 0)),.c (.v (.string ⟨#[]⟩)),.c (.sl 3 [] (some [])),.c (.sl 5 [] (some []))]),(8000,.blk 2 [.c (.v (.int .i64 y4)),.c (.v (.int .i64 0)),.c (.v (.string s51)),.c (.sl 3 [] (some [])),.c (.sl 5 [] (some []))])],3⟩))∧p43_6 False fu (p43 False fu) K0 x2 y3 y4 s51 y52 j55 j56) (fun k9 h L hL_6=>?_) (fun k9 h L hL_6=>?_) ?_
 conv=>cbv
 refine z0d hO [.ref 2,.shut] (d_p15 fu O.len hN h) ?_
 intro e Q a b
 conv=>cbv
 refine⟨by subst a hO;rfl,?_⟩
 intro r bs d
 rw [b] at d
 clear a b h
 obtain⟨y57,y58,_,⟨rfl,rfl⟩,h⟩:=d
 conv=>cbv
 exact hL_6 _ _ ⟨y57,y58,⟨(by (conv=>lhs;cbv)<;>(subst hO;rfl)),(by (conv=>lhs;cbv)<;>(subst hO;rfl))⟩,h⟩
 conv=>cbv
 exact hL_6 _ _ ⟨y53,y54,⟨(by (conv=>lhs;cbv)<;>(subst hO;rfl)),(by (conv=>lhs;cbv)<;>(subst hO;rfl))⟩,h⟩
 rintro tm m ⟨j55,j56,hs,h⟩
 unfold p43_6 at h
 obtain⟨rfl,rfl⟩:=hs
 conv=>cbv
 exact hL_5 _ _ ⟨j55,j56,s51,0,y52,⟨(by (conv=>lhs;cbv)<;>(subst hO;rfl)),(by (conv=>lhs;cbv)<;>(subst hO;rfl))⟩,h⟩
 conv=>cbv
 refine z0e hO tiA h (by subst hO;rfl) [0,1,2,6,7,8,9] [0,1,7000,8000] [] (fun tm m=>∃ (j59:Int),((tm=frame 0 84 [(0,.p 0 0 0),(1,.c (.v (.int .i64 x2))),(2,.p 1 1 0),(6,.p 7000 2 0),(7,.p 8000 2 0),(8,.c (.v (.int .i64 j59))),(9,.c (.v (.int .i64 0)))]∧m=⟨[(0,.blk 0 [.c (.sl 1 y5 none),.c (.v (.int .i64 y6))]),(1,.blk 1 [.c (.v (.int .i64 y3))]),(7000,.blk 2 [.c (.v (.int .i64 0)),.c (.v (.int .i64 0)),.c (.v (.string ⟨#[]⟩)),.c (.sl 3 [] (some [])),.c (.sl 5 [] (some []))]),(8000,.blk 2 [.c (.v (.int .i64 y4)),.c (.v (.int .i64 0)),.c (.v (.string ⟨#[]⟩)),.c (.sl 3 [] (some [])),.c (.sl 5 [] (some []))])],3⟩))∧p43_7 False fu (p43 False fu) K0 x2 y3 y4 y5 y6 j59) (fun k10 h L hL_7=>?_) (fun k10 h L hL_7=>?_) ?_
 conv=>cbv
 exact hL_7 _ _ ⟨3,⟨(by (conv=>lhs;cbv)<;>(subst hO;rfl)),(by (conv=>lhs;cbv)<;>(subst hO;rfl))⟩,h⟩
 conv=>cbv
 exact hL_7 _ _ ⟨2,⟨(by (conv=>lhs;cbv)<;>(subst hO;rfl)),(by (conv=>lhs;cbv)<;>(subst hO;rfl))⟩,h⟩
 rintro tm m ⟨j59,hs,h⟩
 unfold p43_7 at h
 obtain⟨rfl,rfl⟩:=hs
 conv=>cbv
 exact hL_5 _ _ ⟨y5,y6,⟨#[]⟩,j59,0,⟨(by (conv=>lhs;cbv)<;>(subst hO;rfl)),(by (conv=>lhs;cbv)<;>(subst hO;rfl))⟩,h⟩
 rintro tm m ⟨j43,j44,j45,j46,j47,hs,h⟩
 unfold p43_5 at h
 obtain⟨rfl,rfl⟩:=hs
 conv=>cbv
 exact hL_4 _ _ ⟨j43,j44,j45,j46,j47,⟨(by (conv=>lhs;cbv)<;>(subst hO;rfl)),(by (conv=>lhs;cbv)<;>(subst hO;rfl))⟩,h⟩
 rintro tm m ⟨j38,j39,j40,j41,j42,hs,h⟩
 unfold p43_4 at h
 obtain⟨rfl,rfl⟩:=hs
 conv=>cbv
 exact hL_3 _ _ ⟨j38,j39,0,j40,j41,j42,⟨(by (conv=>lhs;cbv)<;>(subst hO;rfl)),(by (conv=>lhs;cbv)<;>(subst hO;rfl))⟩,h⟩
 rintro tm m ⟨j7,j8,j9,j10,j11,j12,hs,h⟩
 unfold p43_3 at h
 obtain⟨rfl,rfl⟩:=hs
 conv=>cbv
 refine z0r hO tiA [0,1,2,6,7,8,46,47] [0,1,7000,8000,61000] [] (fun (n:Nat) tm m=>∃ (z13:EL) (z14:Int) (z15:EL) (z16:Int),((z15=[]∧tm=frame 0 84 [(0,.p 0 0 0),(1,.c (.v (.int .i64 x2))),(2,.p 1 1 0),(6,.p 7000 2 0),(7,.p 8000 2 0),(8,.c (.v (.int .i64 j11))),(46,.c (.v (.int .i64 j12))),(47,.c (.v (.int .i64 z16)))]∧m=⟨[(0,.blk 0 [.c (.sl 1 z13 none),.c (.v (.int .i64 z14))]),(1,.blk 1 [.c (.v (.int .i64 y3))]),(7000,.blk 2 [.c (.v (.int .i64 0)),.c (.v (.int .i64 0)),.c (.v (.string ⟨#[]⟩)),.c (.sl 3 [] (some [])),.c (.sl 5 [] (some []))]),(8000,.blk 2 [.c (.v (.int .i64 y4)),.c (.v (.int .i64 j9)),.c (.v (.string j10)),.c (.sl 3 [] (some [])),.c (.sl 5 [] (some []))])],3⟩)∨(tm=frame 0 84 [(0,.p 0 0 0),(1,.c (.v (.int .i64 x2))),(2,.p 1 1 0),(6,.p 7000 2 0),(7,.p 8000 2 0),(8,.c (.v (.int .i64 j11))),(46,.c (.v (.int .i64 j12))),(47,.c (.v (.int .i64 z16)))]∧m=⟨[(0,.blk 0 [.c (.sl 1 z13 none),.c (.v (.int .i64 z14))]),(1,.blk 1 [.c (.v (.int .i64 y3))]),(7000,.blk 2 [.c (.v (.int .i64 0)),.c (.v (.int .i64 0)),.c (.v (.string ⟨#[]⟩)),.c (.sl 3 [] (some [])),.c (.sl 5 [] (some []))]),(8000,.blk 2 [.c (.v (.int .i64 y4)),.c (.v (.int .i64 j9)),.c (.v (.string j10)),.t 61000 2 (O.len z15),.c (.sl 5 [] (some []))]),(61000,.arr 2 3 z15 none false)],3⟩))∧p43_2L False fu (p43 False fu) K0 x2 y3 y4 j9 j10 j11 j12 n z13 z14 z15 z16) (fun n=>n) fu ⟨j7,j8,nilE,0,(.inl ⟨rfl,(by (conv=>lhs;cbv)<;>(subst hO;rfl)),(by (conv=>lhs;cbv)<;>(subst hO;rfl))⟩),h⟩ ?_
 rintro n1 tm m L ⟨z13,z14,z15,z16,hs,h⟩ hLn1
 (cases n1 with
 | zero=>rw [p43_2L] at h;exact h.elim
 | succ n1 =>
 rw [p43_2L] at h
 unfold p43_2 at h
 rcases hs with hs | hs
 obtain⟨rfl,rfl,rfl⟩:=hs
 conv=>cbv
 refine br_h hO h (by subst hO;rfl) (fun k2 h=>?_) (fun k2 h=>?_)
 conv=>cbv
 refine z0b hO ?_
 conv=>cbv
 refine br_h hO h (by subst hO;rfl) (fun k3 h=>?_) (fun k3 h=>?_)
 conv=>cbv
 rw [b]
 exact⟨y4,j9,j10,nilE,nilE,z13,z14,y3,_,⟨(by subst hO;rfl),(by subst hO;rfl)⟩,h⟩
 conv=>cbv
 refine z0b hO ?_
 conv=>cbv
 refine z0o hO tiA [[0],[],[],[],[]] [(0,true,false),(1,true,false),(2,true,false),(3,false,false),(4,false,false),(5,false,true),(6,true,true),(7,false,true)] (by kernel_rfl) ?_
 conv=>cbv
 refine z0d hO [.ref 2] (d_p62 fu O.len hN h) ?_
 intro e Q a b
 conv=>cbv
 refine⟨by subst a hO;rfl,?_⟩
 intro r bs d
 rw [b] at d
 clear a b h
 obtain⟨y17,y18,y19,y20,y21,⟨rfl,rfl⟩,h⟩:=d
 conv=>cbv
 refine agr hO rfl rfl ?_
 refine agr hO rfl rfl ?_
 refine z0z hO h (fun g=>(by subst hO;exact g)) (fun h=>?_)
 conv=>cbv
 refine and_h h (fun g=>(by subst hO;exact g)) (fun h=>?_)
 refine z2i hO (by subst hO;exact List.cons_ne_nil _ _) ?_
 conv=>cbv
 refine z0b hO ?_
 conv=>cbv
 exact hLn1 n1 _ _ (Nat.lt_succ_self n1) ⟨y20,y21,(nilE++(List.take 1 [[(CV.v (.int .i64 y17)),(CV.v (.int .i64 y18)),(CV.sl 3 y19 none)]])),z0c .add .i64 z16 1,(.inr ⟨(by (conv=>lhs;cbv)<;>(subst hO;rfl)),(by (conv=>lhs;cbv)<;>(subst hO;rfl))⟩),h⟩
 conv=>cbv
 refine z0r hO tiA [0,1,2,6,7,63,64] [0,1,7000,8000,81000] [] (fun (n:Nat) tm m=>∃ (z22:EL) (z23:Int) (z24:Int) (z25:EL) (z26:Int),((z25=[]∧tm=frame 0 84 [(0,.p 0 0 0),(1,.c (.v (.int .i64 x2))),(2,.p 1 1 0),(6,.p 7000 2 0),(7,.p 8000 2 0),(63,.c (.v (.int .i64 j11))),(64,.c (.v (.int .i64 z26)))]∧m=⟨[(0,.blk 0 [.c (.sl 1 z22 none),.c (.v (.int .i64 z23))]),(1,.blk 1 [.c (.v (.int .i64 z24))]),(7000,.blk 2 [.c (.v (.int .i64 0)),.c (.v (.int .i64 0)),.c (.v (.string ⟨#[]⟩)),.c (.sl 3 [] (some [])),.c (.sl 5 [] (some []))]),(8000,.blk 2 [.c (.v (.int .i64 y4)),.c (.v (.int .i64 j9)),.c (.v (.string j10)),.c (.sl 3 [] (some [])),.c (.sl 5 [] (some []))])],3⟩)∨(tm=frame 0 84 [(0,.p 0 0 0),(1,.c (.v (.int .i64 x2))),(2,.p 1 1 0),(6,.p 7000 2 0),(7,.p 8000 2 0),(63,.c (.v (.int .i64 j11))),(64,.c (.v (.int .i64 z26)))]∧m=⟨[(0,.blk 0 [.c (.sl 1 z22 none),.c (.v (.int .i64 z23))]),(1,.blk 1 [.c (.v (.int .i64 z24))]),(7000,.blk 2 [.c (.v (.int .i64 0)),.c (.v (.int .i64 0)),.c (.v (.string ⟨#[]⟩)),.c (.sl 3 [] (some [])),.c (.sl 5 [] (some []))]),(8000,.blk 2 [.c (.v (.int .i64 y4)),.c (.v (.int .i64 j9)),.c (.v (.string j10)),.c (.sl 3 [] (some [])),.t 81000 2 (O.len z25)]),(81000,.arr 2 5 z25 none false)],3⟩))∧p43_1L False fu (p43 False fu) K0 x2 y4 j9 j10 j11 nilE n z22 z23 z24 z25 z26) (fun n=>n) fu ⟨z13,z14,y3,nilE,0,(.inl ⟨rfl,(by (conv=>lhs;cbv)<;>(subst hO;rfl)),(by (conv=>lhs;cbv)<;>(subst hO;rfl))⟩),h⟩ ?_
 rintro n2 tm m L ⟨z22,z23,z24,z25,z26,hs,h⟩ hLn2
 (cases n2 with
 | zero=>rw [p43_1L] at h;exact h.elim
 | succ n2 =>
 rw [p43_1L] at h
 unfold p43_1 at h
 rcases hs with hs | hs
 obtain⟨rfl,rfl,rfl⟩:=hs
 conv=>cbv
 refine br_h hO h (by subst hO;rfl) (fun k4 h=>?_) (fun k4 h=>?_)
 conv=>cbv
 refine z0b hO ?_
 conv=>cbv
 refine br_h hO h (by subst hO;rfl) (fun k5 h=>?_) (fun k5 h=>?_)
 conv=>cbv
 rw [b]
 exact⟨y4,j9,j10,nilE,nilE,z22,z23,z24,_,⟨(by subst hO;rfl),(by subst hO;rfl)⟩,h⟩
 conv=>cbv
 refine z0b hO ?_
 conv=>cbv
 refine z0o hO tiA [[0,1],[],[],[],[]] [(0,true,false),(1,true,false),(2,true,false),(3,true,false),(4,true,false),(5,true,false),(6,false,false),(7,false,false),(8,false,true),(9,true,true),(10,false,true)] (by kernel_rfl) ?_
 conv=>cbv
 refine z0d hO [.ref 2,.shut,.ref 1] (ih_p43 O.len hN h) ?_
 intro e Q a b
 conv=>cbv
 refine⟨by subst a hO;rfl,?_⟩
 intro r bs d
 rw [b] at d
 clear a b h
 obtain⟨y27,y28,y29,y30,y31,y32,y33,y34,_,⟨rfl,rfl⟩,h⟩:=d
 conv=>cbv
 refine agr hO rfl rfl ?_
 refine agr hO rfl rfl ?_
 refine z0z hO h (fun g=>(by subst hO;exact g)) (fun h=>?_)
 conv=>cbv
 refine and_h h (fun g=>(by subst hO;exact g)) (fun h=>?_)
 refine z2i hO (by subst hO;exact List.cons_ne_nil _ _) ?_
 conv=>cbv
 refine z0b hO ?_
 conv=>cbv
 exact hLn2 n2 _ _ (Nat.lt_succ_self n2) ⟨y32,y33,y34,(nilE++(List.take 1 [[(CV.v (.int .i64 y27)),(CV.v (.int .i64 y28)),(CV.v (.string y29)),(CV.sl 3 y30 none),(CV.sl 5 y31 none)]])),z0c .add .i64 z26 1,(.inr ⟨(by (conv=>lhs;cbv)<;>(subst hO;rfl)),(by (conv=>lhs;cbv)<;>(subst hO;rfl))⟩),h⟩
 conv=>cbv
 rw [b]
 exact⟨y4,j9,j10,nilE,nilE,z22,z23,z24,_,⟨(by subst hO;rfl),(by subst hO;rfl)⟩,h⟩
 obtain⟨rfl,rfl⟩:=hs
 conv=>cbv
 refine br_h hO h (by subst hO;rfl) (fun k4 h=>?_) (fun k4 h=>?_)
 conv=>cbv
 refine z0b hO ?_
 conv=>cbv
 refine br_h hO h (by subst hO;rfl) (fun k5 h=>?_) (fun k5 h=>?_)
 conv=>cbv
 refine z0k hO ?_
 conv=>cbv
 rw [b]
 exact⟨y4,j9,j10,nilE,z25,z22,z23,z24,_,⟨(by subst hO;rfl),(by subst hO;rfl)⟩,h⟩
 conv=>cbv
 refine z0b hO ?_
 conv=>cbv
 refine z0o hO tiA [[0,1],[],[],[],[]] [(0,true,false),(1,true,false),(2,true,false),(3,true,false),(4,true,false),(5,true,false),(6,false,false),(7,false,false),(8,false,true),(9,true,true),(10,false,true)] (by kernel_rfl) ?_
 conv=>cbv
 refine z0d hO [.ref 2,.shut,.ref 1] (ih_p43 O.len hN h) ?_
 intro e Q a b
 conv=>cbv
 refine⟨by subst a hO;rfl,?_⟩
 intro r bs d
 rw [b] at d
 clear a b h
 obtain⟨y27,y28,y29,y30,y31,y32,y33,y34,_,⟨rfl,rfl⟩,h⟩:=d
 conv=>cbv
 refine agr hO rfl rfl ?_
 refine agr hO rfl rfl ?_
 refine z0z hO h (fun g=>(by subst hO;exact g)) (fun h=>?_)
 conv=>cbv
 refine⟨(by subst hO;rfl),?_⟩
 refine and_h h (fun g=>(by subst hO;exact g)) (fun h=>?_)
 refine z0b hO ?_
 conv=>cbv
 exact hLn2 n2 _ _ (Nat.lt_succ_self n2) ⟨y32,y33,y34,(z25++(List.take 1 [[(CV.v (.int .i64 y27)),(CV.v (.int .i64 y28)),(CV.v (.string y29)),(CV.sl 3 y30 none),(CV.sl 5 y31 none)]])),z0c .add .i64 z26 1,(.inr ⟨(by (conv=>lhs;cbv)<;>(subst hO;rfl)),(by (conv=>lhs;cbv)<;>(subst hO;rfl))⟩),h⟩
 conv=>cbv
 refine z0k hO ?_
 conv=>cbv
 rw [b]
 exact⟨y4,j9,j10,nilE,z25,z22,z23,z24,_,⟨(by subst hO;rfl),(by subst hO;rfl)⟩,h⟩)
 obtain⟨rfl,rfl⟩:=hs
 conv=>cbv
 refine br_h hO h (by subst hO;rfl) (fun k2 h=>?_) (fun k2 h=>?_)
 conv=>cbv
 refine z0b hO ?_
 conv=>cbv
 refine br_h hO h (by subst hO;rfl) (fun k3 h=>?_) (fun k3 h=>?_)
 conv=>cbv
 refine z0k hO ?_
 conv=>cbv
 rw [b]
 exact⟨y4,j9,j10,z15,nilE,z13,z14,y3,_,⟨(by subst hO;rfl),(by subst hO;rfl)⟩,h⟩
 conv=>cbv
 refine z0b hO ?_
 conv=>cbv
 refine z0o hO tiA [[0],[],[],[],[]] [(0,true,false),(1,true,false),(2,true,false),(3,false,false),(4,false,false),(5,false,true),(6,true,true),(7,false,true)] (by kernel_rfl) ?_
 conv=>cbv
 refine z0d hO [.ref 2] (d_p62 fu O.len hN h) ?_
 intro e Q a b
 conv=>cbv
 refine⟨by subst a hO;rfl,?_⟩
 intro r bs d
 rw [b] at d
 clear a b h
 obtain⟨y17,y18,y19,y20,y21,⟨rfl,rfl⟩,h⟩:=d
 conv=>cbv
 refine agr hO rfl rfl ?_
 refine agr hO rfl rfl ?_
 refine z0z hO h (fun g=>(by subst hO;exact g)) (fun h=>?_)
 conv=>cbv
 refine⟨(by subst hO;rfl),?_⟩
 refine and_h h (fun g=>(by subst hO;exact g)) (fun h=>?_)
 refine z0b hO ?_
 conv=>cbv
 exact hLn1 n1 _ _ (Nat.lt_succ_self n1) ⟨y20,y21,(z15++(List.take 1 [[(CV.v (.int .i64 y17)),(CV.v (.int .i64 y18)),(CV.sl 3 y19 none)]])),z0c .add .i64 z16 1,(.inr ⟨(by (conv=>lhs;cbv)<;>(subst hO;rfl)),(by (conv=>lhs;cbv)<;>(subst hO;rfl))⟩),h⟩
 conv=>cbv
 refine z0r hO tiA [0,1,2,6,7,63,64] [0,1,7000,8000,61000,81000] [] (fun (n:Nat) tm m=>∃ (z22:EL) (z23:Int) (z24:Int) (z25:EL) (z26:Int),((z25=[]∧tm=frame 0 84 [(0,.p 0 0 0),(1,.c (.v (.int .i64 x2))),(2,.p 1 1 0),(6,.p 7000 2 0),(7,.p 8000 2 0),(63,.c (.v (.int .i64 j11))),(64,.c (.v (.int .i64 z26)))]∧m=⟨[(0,.blk 0 [.c (.sl 1 z22 none),.c (.v (.int .i64 z23))]),(1,.blk 1 [.c (.v (.int .i64 z24))]),(7000,.blk 2 [.c (.v (.int .i64 0)),.c (.v (.int .i64 0)),.c (.v (.string ⟨#[]⟩)),.c (.sl 3 [] (some [])),.c (.sl 5 [] (some []))]),(8000,.blk 2 [.c (.v (.int .i64 y4)),.c (.v (.int .i64 j9)),.c (.v (.string j10)),.t 61000 2 (O.len z15),.c (.sl 5 [] (some []))]),(61000,.arr 2 3 z15 none false)],3⟩)∨(tm=frame 0 84 [(0,.p 0 0 0),(1,.c (.v (.int .i64 x2))),(2,.p 1 1 0),(6,.p 7000 2 0),(7,.p 8000 2 0),(63,.c (.v (.int .i64 j11))),(64,.c (.v (.int .i64 z26)))]∧m=⟨[(0,.blk 0 [.c (.sl 1 z22 none),.c (.v (.int .i64 z23))]),(1,.blk 1 [.c (.v (.int .i64 z24))]),(7000,.blk 2 [.c (.v (.int .i64 0)),.c (.v (.int .i64 0)),.c (.v (.string ⟨#[]⟩)),.c (.sl 3 [] (some [])),.c (.sl 5 [] (some []))]),(8000,.blk 2 [.c (.v (.int .i64 y4)),.c (.v (.int .i64 j9)),.c (.v (.string j10)),.t 61000 2 (O.len z15),.t 81000 2 (O.len z25)]),(61000,.arr 2 3 z15 none false),(81000,.arr 2 5 z25 none false)],3⟩))∧p43_1L False fu (p43 False fu) K0 x2 y4 j9 j10 j11 z15 n z22 z23 z24 z25 z26) (fun n=>n) fu ⟨z13,z14,y3,nilE,0,(.inl ⟨rfl,(by (conv=>lhs;cbv)<;>(subst hO;rfl)),(by (conv=>lhs;cbv)<;>(subst hO;rfl))⟩),h⟩ ?_
 rintro n2 tm m L ⟨z22,z23,z24,z25,z26,hs,h⟩ hLn2
 (cases n2 with
 | zero=>rw [p43_1L] at h;exact h.elim
 | succ n2 =>
 rw [p43_1L] at h
 unfold p43_1 at h
 rcases hs with hs | hs
 obtain⟨rfl,rfl,rfl⟩:=hs
 conv=>cbv
 refine br_h hO h (by subst hO;rfl) (fun k4 h=>?_) (fun k4 h=>?_)
 conv=>cbv
 refine z0b hO ?_
 conv=>cbv
 refine br_h hO h (by subst hO;rfl) (fun k5 h=>?_) (fun k5 h=>?_)
 conv=>cbv
 refine z0k hO ?_
 conv=>cbv
 rw [b]
 exact⟨y4,j9,j10,z15,nilE,z22,z23,z24,_,⟨(by subst hO;rfl),(by subst hO;rfl)⟩,h⟩
 conv=>cbv
 refine z0b hO ?_
 conv=>cbv
 refine z0o hO tiA [[0,1],[],[],[],[]] [(0,true,false),(1,true,false),(2,true,false),(3,true,false),(4,true,false),(5,true,false),(6,false,false),(7,false,false),(8,false,true),(9,true,true),(10,false,true)] (by kernel_rfl) ?_
 conv=>cbv
 refine z0d hO [.ref 2,.shut,.ref 1] (ih_p43 O.len hN h) ?_
 intro e Q a b
 conv=>cbv
 refine⟨by subst a hO;rfl,?_⟩
 intro r bs d
 rw [b] at d
 clear a b h
 obtain⟨y27,y28,y29,y30,y31,y32,y33,y34,_,⟨rfl,rfl⟩,h⟩:=d
 conv=>cbv
 refine agr hO rfl rfl ?_
 refine agr hO rfl rfl ?_
 refine z0z hO h (fun g=>(by subst hO;exact g)) (fun h=>?_)
 conv=>cbv
 refine and_h h (fun g=>(by subst hO;exact g)) (fun h=>?_)
 refine z2i hO (by subst hO;exact List.cons_ne_nil _ _) ?_
 conv=>cbv
 refine z0b hO ?_
 conv=>cbv
 exact hLn2 n2 _ _ (Nat.lt_succ_self n2) ⟨y32,y33,y34,(nilE++(List.take 1 [[(CV.v (.int .i64 y27)),(CV.v (.int .i64 y28)),(CV.v (.string y29)),(CV.sl 3 y30 none),(CV.sl 5 y31 none)]])),z0c .add .i64 z26 1,(.inr ⟨(by (conv=>lhs;cbv)<;>(subst hO;rfl)),(by (conv=>lhs;cbv)<;>(subst hO;rfl))⟩),h⟩
 conv=>cbv
 refine z0k hO ?_
 conv=>cbv
 rw [b]
 exact⟨y4,j9,j10,z15,nilE,z22,z23,z24,_,⟨(by subst hO;rfl),(by subst hO;rfl)⟩,h⟩
 obtain⟨rfl,rfl⟩:=hs
 conv=>cbv
 refine br_h hO h (by subst hO;rfl) (fun k4 h=>?_) (fun k4 h=>?_)
 conv=>cbv
 refine z0b hO ?_
 conv=>cbv
 refine br_h hO h (by subst hO;rfl) (fun k5 h=>?_) (fun k5 h=>?_)
 conv=>cbv
 refine z0k hO ?_
 conv=>cbv
 refine z0k hO ?_
 conv=>cbv
 rw [b]
 exact⟨y4,j9,j10,z15,z25,z22,z23,z24,_,⟨(by subst hO;rfl),(by subst hO;rfl)⟩,h⟩
 conv=>cbv
 refine z0b hO ?_
 conv=>cbv
 refine z0o hO tiA [[0,1],[],[],[],[]] [(0,true,false),(1,true,false),(2,true,false),(3,true,false),(4,true,false),(5,true,false),(6,false,false),(7,false,false),(8,false,true),(9,true,true),(10,false,true)] (by kernel_rfl) ?_
 conv=>cbv
 refine z0d hO [.ref 2,.shut,.ref 1] (ih_p43 O.len hN h) ?_
 intro e Q a b
 conv=>cbv
 refine⟨by subst a hO;rfl,?_⟩
 intro r bs d
 rw [b] at d
 clear a b h
 obtain⟨y27,y28,y29,y30,y31,y32,y33,y34,_,⟨rfl,rfl⟩,h⟩:=d
 conv=>cbv
 refine agr hO rfl rfl ?_
 refine agr hO rfl rfl ?_
 refine z0z hO h (fun g=>(by subst hO;exact g)) (fun h=>?_)
 conv=>cbv
 refine⟨(by subst hO;rfl),?_⟩
 refine and_h h (fun g=>(by subst hO;exact g)) (fun h=>?_)
 refine z0b hO ?_
 conv=>cbv
 exact hLn2 n2 _ _ (Nat.lt_succ_self n2) ⟨y32,y33,y34,(z25++(List.take 1 [[(CV.v (.int .i64 y27)),(CV.v (.int .i64 y28)),(CV.v (.string y29)),(CV.sl 3 y30 none),(CV.sl 5 y31 none)]])),z0c .add .i64 z26 1,(.inr ⟨(by (conv=>lhs;cbv)<;>(subst hO;rfl)),(by (conv=>lhs;cbv)<;>(subst hO;rfl))⟩),h⟩
 conv=>cbv
 refine z0k hO ?_
 conv=>cbv
 refine z0k hO ?_
 conv=>cbv
 rw [b]
 exact⟨y4,j9,j10,z15,z25,z22,z23,z24,_,⟨(by subst hO;rfl),(by subst hO;rfl)⟩,h⟩))
theorem dd_p43 (fu:Nat):D_p43 fu:=by
 induction fu with
 | zero=>unfold D_p43;intros;rename_i h;rw [p43] at h;exact h.elim
 | succ n ih =>
  exact (by unfold D_p43;intro K0 L hN x0 x1 x2 x3 h;exact b_p43 n ih L hN (by rw [p43] at h;exact h))
theorem d_p43 (fu:Nat):D_p43 fu:=dd_p43 fu
theorem d_p19 (fu:Nat){K0:Int→Int→ByteArray→EL→EL→EL→Int→Prop}(L:EL→Nat)(hN:L=List.length){x0:EL}{x1:Int}(h:p19 False fu K0 x0 x1):Den Try.prog G0 19 [.ptr [.c (.sl 1 x0 none),.c (.v (.int .i64 x1))]] (fun r bs=>(∃ (y0 y1:Int) (y2:ByteArray) (y3 y4 y5:EL) (y6:Int),(r=.agg [.c (.v (.int .i64 y0)),.c (.v (.int .i64 y1)),.c (.v (.string y2)),.c (.sl 3 y3 none),.c (.sl 5 y4 none)]∧bs=[.ptr [.c (.sl 1 y5 none),.c (.v (.int .i64 y6))]])∧K0 y0 y1 y2 y3 y4 y5 y6)):=by
 obtain⟨O,hO⟩:∃ O,O=std 1 T G0 (Den Try.prog G0):=⟨_,rfl⟩
 have hLO:L=O.len:=by rw [hN,hO];rfl
 subst hLO
 refine den_h hO tiA mixed tabOk (fn:=Try.f19) (sh:=true) (by kernel_rfl) rfl rfl rfl rfl ?_
 intro Q b
 unfold p19 at h
 conv=>cbv
 refine z0d hO [.ref 2,.shut,.ref 1] (d_p43 fu O.len hN h) ?_
 intro e Q a b
 conv=>cbv
 refine⟨by subst a hO;rfl,?_⟩
 intro r bs d
 rw [b] at d
 clear a b h
 obtain⟨y1,y2,y3,y4,y5,y6,y7,y8,_,⟨rfl,rfl⟩,h⟩:=d
 conv=>cbv
 rw [b]
 exact⟨y1,y2,y3,y4,y5,y6,y7,⟨(by subst hO;rfl),(by subst hO;rfl)⟩,h⟩
theorem d_p18 (fu:Nat){K0:Int→Int→Int→ByteArray→ByteArray→Int→Int→ByteArray→EL→EL→Int→Int→ByteArray→EL→EL→EL→EL→Int→Prop}(L:EL→Nat)(hN:L=List.length){x0:EL}{x1:Int}(h:p18 False fu K0 x0 x1):Den Try.prog G0 18 [.ptr [.c (.sl 1 x0 none),.c (.v (.int .i64 x1))]] (fun r bs=>(∃ (y0 y1 y2:Int) (y3 y4:ByteArray) (y5 y6:Int) (y7:ByteArray) (y8 y9:EL) (y10 y11:Int) (y12:ByteArray) (y13 y14 y15 y16:EL) (y17:Int),(r=.agg [.c (.v (.int .i64 y0)),.c (.v (.int .i64 y1)),.c (.v (.int .i64 y2)),.c (.v (.string y3)),.c (.v (.string y4)),.c (.v (.int .i64 y5)),.c (.v (.int .i64 y6)),.c (.v (.string y7)),.c (.sl 3 y8 none),.c (.sl 5 y9 none),.c (.v (.int .i64 y10)),.c (.v (.int .i64 y11)),.c (.v (.string y12)),.c (.sl 3 y13 none),.c (.sl 5 y14 none),.c (.sl 6 y15 none)]∧bs=[.ptr [.c (.sl 1 y16 none),.c (.v (.int .i64 y17))]])∧K0 y0 y1 y2 y3 y4 y5 y6 y7 y8 y9 y10 y11 y12 y13 y14 y15 y16 y17)):=by
 obtain⟨O,hO⟩:∃ O,O=std 1 T G0 (Den Try.prog G0):=⟨_,rfl⟩
 have hLO:L=O.len:=by rw [hN,hO];rfl
 subst hLO
 refine den_h hO tiA mixed tabOk (fn:=Try.f18) (sh:=true) (by kernel_rfl) rfl rfl rfl rfl ?_
 intro Q b
 unfold p18 at h
 conv=>cbv
 refine z0d hO [.ref 2,.shut,.shut] (d_p13 fu O.len hN h) ?_
 intro e Q a b
 conv=>cbv
 refine⟨by subst a hO;rfl,?_⟩
 intro r bs d
 rw [b] at d
 clear a b h
 obtain⟨y1,y2,y3,_,_,⟨rfl,rfl⟩,h⟩:=d
 conv=>cbv
 refine z0d hO [.ref 2] (d_p16 fu O.len hN h) ?_
 intro e Q a b
 conv=>cbv
 refine⟨by subst a hO;rfl,?_⟩
 intro r bs d
 rw [b] at d
 clear a b h
 obtain⟨y4,y5,y6,⟨rfl,rfl⟩,h⟩:=d
 conv=>cbv
 refine z0d hO [.ref 2] (d_p16 fu O.len hN h) ?_
 intro e Q a b
 conv=>cbv
 refine⟨by subst a hO;rfl,?_⟩
 intro r bs d
 rw [b] at d
 clear a b h
 obtain⟨y7,y8,y9,⟨rfl,rfl⟩,h⟩:=d
 conv=>cbv
 refine z0d hO [.ref 2,.shut] (d_p20 fu O.len hN h) ?_
 intro e Q a b
 conv=>cbv
 refine⟨by subst a hO;rfl,?_⟩
 intro r bs d
 rw [b] at d
 clear a b h
 obtain⟨y10,y11,y12,_,⟨rfl,rfl⟩,h⟩:=d
 conv=>cbv
 refine tob_h hO h (by subst hO;rfl) (fun s13 h=>?_)
 conv=>cbv
 refine z0d hO [.ref 2,.shut] (d_p20 fu O.len hN h) ?_
 intro e Q a b
 conv=>cbv
 refine⟨by subst a hO;rfl,?_⟩
 intro r bs d
 rw [b] at d
 clear a b h
 obtain⟨y14,y15,y16,_,⟨rfl,rfl⟩,h⟩:=d
 conv=>cbv
 refine tob_h hO h (by subst hO;rfl) (fun s17 h=>?_)
 conv=>cbv
 refine z0e hO tiA h (by subst hO;rfl) [0,2,3] [0,3000,4000] [] (fun tm m=>∃ (j18:EL) (j19:Int) (j20:Int) (j21:Int) (j22:ByteArray) (j23:EL) (j24:EL),((tm=frame 0 93 [(0,.p 0 0 0),(2,.p 3000 1 0),(3,.p 4000 1 0)]∧m=⟨[(0,.blk 0 [.c (.sl 1 j18 none),.c (.v (.int .i64 j19))]),(3000,.blk 1 [.c (.v (.int .i64 0)),.c (.v (.int .i64 0)),.c (.v (.int .i64 0)),.c (.v (.string ⟨#[]⟩)),.c (.v (.string ⟨#[]⟩)),.c (.v (.int .i64 0)),.c (.v (.int .i64 0)),.c (.v (.string ⟨#[]⟩)),.c (.sl 3 [] (some [])),.c (.sl 5 [] (some [])),.c (.v (.int .i64 0)),.c (.v (.int .i64 0)),.c (.v (.string ⟨#[]⟩)),.c (.sl 3 [] (some [])),.c (.sl 5 [] (some [])),.c (.sl 6 [] (some []))]),(4000,.blk 1 [.c (.v (.int .i64 y1)),.c (.v (.int .i64 y4)),.c (.v (.int .i64 y7)),.c (.v (.string s13)),.c (.v (.string s17)),.c (.v (.int .i64 j20)),.c (.v (.int .i64 j21)),.c (.v (.string j22)),.c (.sl 3 j23 none),.c (.sl 5 j24 none),.c (.v (.int .i64 0)),.c (.v (.int .i64 0)),.c (.v (.string ⟨#[]⟩)),.c (.sl 3 [] (some [])),.c (.sl 5 [] (some [])),.c (.sl 6 [] (some []))])],2⟩)∨(j23=[]∧j24=[]∧tm=frame 0 93 [(0,.p 0 0 0),(2,.p 3000 1 0),(3,.p 4000 1 0)]∧m=⟨[(0,.blk 0 [.c (.sl 1 j18 none),.c (.v (.int .i64 j19))]),(3000,.blk 1 [.c (.v (.int .i64 0)),.c (.v (.int .i64 0)),.c (.v (.int .i64 0)),.c (.v (.string ⟨#[]⟩)),.c (.v (.string ⟨#[]⟩)),.c (.v (.int .i64 0)),.c (.v (.int .i64 0)),.c (.v (.string ⟨#[]⟩)),.c (.sl 3 [] (some [])),.c (.sl 5 [] (some [])),.c (.v (.int .i64 0)),.c (.v (.int .i64 0)),.c (.v (.string ⟨#[]⟩)),.c (.sl 3 [] (some [])),.c (.sl 5 [] (some [])),.c (.sl 6 [] (some []))]),(4000,.blk 1 [.c (.v (.int .i64 y1)),.c (.v (.int .i64 y4)),.c (.v (.int .i64 y7)),.c (.v (.string s13)),.c (.v (.string s17)),.c (.v (.int .i64 j20)),.c (.v (.int .i64 j21)),.c (.v (.string j22)),.c (.sl 3 [] (some [])),.c (.sl 5 [] (some [])),.c (.v (.int .i64 0)),.c (.v (.int .i64 0)),.c (.v (.string ⟨#[]⟩)),.c (.sl 3 [] (some [])),.c (.sl 5 [] (some [])),.c (.sl 6 [] (some []))])],2⟩))∧p18_8 False fu K0 y1 y4 y7 s13 s17 j18 j19 j20 j21 j22 j23 j24) (fun k9 h L hL_8=>?_) (fun k9 h L hL_8=>?_) ?_
 conv=>cbv
 refine z0d hO [.ref 2] (d_p19 fu O.len hN h) ?_
 intro e Q a b
 conv=>cbv
 refine⟨by subst a hO;rfl,?_⟩
 intro r bs d
 rw [b] at d
 clear a b h
 obtain⟨y77,y78,y79,y80,y81,y82,y83,⟨rfl,rfl⟩,h⟩:=d
 conv=>cbv
 exact hL_8 _ _ ⟨y82,y83,y77,y78,y79,y80,y81,(.inl ⟨(by (conv=>lhs;cbv)<;>(subst hO;rfl)),(by (conv=>lhs;cbv)<;>(subst hO;rfl))⟩),h⟩
 conv=>cbv
 exact hL_8 _ _ ⟨y15,y16,0,0,⟨#[]⟩,nilE,nilE,(.inr ⟨rfl,rfl,(by (conv=>lhs;cbv)<;>(subst hO;rfl)),(by (conv=>lhs;cbv)<;>(subst hO;rfl))⟩),h⟩
 rintro tm m ⟨j18,j19,j20,j21,j22,j23,j24,hs,h⟩
 unfold p18_8 at h
 rcases hs with hs | hs
 obtain⟨rfl,rfl⟩:=hs
 conv=>cbv
 refine z0d hO [.ref 2] (d_p41 fu O.len hN h) ?_
 intro e Q a b
 conv=>cbv
 refine⟨by subst a hO;rfl,?_⟩
 intro r bs d
 rw [b] at d
 clear a b h
 obtain⟨y25,y26,y27,⟨rfl,rfl⟩,h⟩:=d
 conv=>cbv
 refine z0g hO tiA [0,2,3,4,43] [0,3000,4000] [] (fun tm m=>∃ (j28:Bool),((tm=frame 0 93 [(0,.p 0 0 0),(2,.p 3000 1 0),(3,.p 4000 1 0),(4,.c (.v (.int .u64 y25))),(43,.c (.v (.bool j28)))]∧m=⟨[(0,.blk 0 [.c (.sl 1 y26 none),.c (.v (.int .i64 y27))]),(3000,.blk 1 [.c (.v (.int .i64 0)),.c (.v (.int .i64 0)),.c (.v (.int .i64 0)),.c (.v (.string ⟨#[]⟩)),.c (.v (.string ⟨#[]⟩)),.c (.v (.int .i64 0)),.c (.v (.int .i64 0)),.c (.v (.string ⟨#[]⟩)),.c (.sl 3 [] (some [])),.c (.sl 5 [] (some [])),.c (.v (.int .i64 0)),.c (.v (.int .i64 0)),.c (.v (.string ⟨#[]⟩)),.c (.sl 3 [] (some [])),.c (.sl 5 [] (some [])),.c (.sl 6 [] (some []))]),(4000,.blk 1 [.c (.v (.int .i64 y1)),.c (.v (.int .i64 y4)),.c (.v (.int .i64 y7)),.c (.v (.string s13)),.c (.v (.string s17)),.c (.v (.int .i64 j20)),.c (.v (.int .i64 j21)),.c (.v (.string j22)),.c (.sl 3 j23 none),.c (.sl 5 j24 none),.c (.v (.int .i64 0)),.c (.v (.int .i64 0)),.c (.v (.string ⟨#[]⟩)),.c (.sl 3 [] (some [])),.c (.sl 5 [] (some [])),.c (.sl 6 [] (some []))])],2⟩))∧p18_7 False fu K0 y1 y4 y7 s13 s17 j20 j21 j22 j23 j24 y25 y26 y27 j28) (fun L hL_7=>?_) ?_
 conv=>cbv
 refine br_h hO h (by subst hO;rfl) (fun k8 h=>?_) (fun k8 h=>?_)
 conv=>cbv
 refine br_t hO k8 ?_
 conv=>cbv
 refine br_t hO k8 ?_
 conv=>cbv
 refine br_t hO k8 ?_
 conv=>cbv
 refine br_t hO k8 ?_
 conv=>cbv
 refine br_t hO k8 ?_
 conv=>cbv
 refine br_t hO k8 ?_
 conv=>cbv
 exact hL_7 _ _ ⟨true,⟨(by (conv=>lhs;cbv)<;>(subst hO;rfl)),(by (conv=>lhs;cbv)<;>(subst hO;rfl))⟩,h⟩
 conv=>cbv
 refine br_f hO k8 ?_
 conv=>cbv
 refine br_f hO k8 ?_
 conv=>cbv
 refine br_f hO k8 ?_
 conv=>cbv
 refine br_f hO k8 ?_
 conv=>cbv
 refine br_f hO k8 ?_
 conv=>cbv
 refine br_f hO k8 ?_
 conv=>cbv
 exact hL_7 _ _ ⟨(!((z0a .eql y25 1) == (z0a .eql y1 2))),⟨(by (conv=>lhs;cbv)<;>(subst hO;rfl)),(by (conv=>lhs;cbv)<;>(subst hO;rfl))⟩,h⟩
 rintro tm m ⟨j28,hs,h⟩
 unfold p18_7 at h
 obtain⟨rfl,rfl⟩:=hs
 conv=>cbv
 refine z0e hO tiA h (by subst hO;rfl) [0,2,3,4] [0,3000,4000] [] (fun tm m=>∃ (j29:EL) (j30:Int),((tm=frame 0 93 [(0,.p 0 0 0),(2,.p 3000 1 0),(3,.p 4000 1 0),(4,.c (.v (.int .u64 y25)))]∧m=⟨[(0,.blk 0 [.c (.sl 1 j29 none),.c (.v (.int .i64 j30))]),(3000,.blk 1 [.c (.v (.int .i64 0)),.c (.v (.int .i64 0)),.c (.v (.int .i64 0)),.c (.v (.string ⟨#[]⟩)),.c (.v (.string ⟨#[]⟩)),.c (.v (.int .i64 0)),.c (.v (.int .i64 0)),.c (.v (.string ⟨#[]⟩)),.c (.sl 3 [] (some [])),.c (.sl 5 [] (some [])),.c (.v (.int .i64 0)),.c (.v (.int .i64 0)),.c (.v (.string ⟨#[]⟩)),.c (.sl 3 [] (some [])),.c (.sl 5 [] (some [])),.c (.sl 6 [] (some []))]),(4000,.blk 1 [.c (.v (.int .i64 y1)),.c (.v (.int .i64 y4)),.c (.v (.int .i64 y7)),.c (.v (.string s13)),.c (.v (.string s17)),.c (.v (.int .i64 j20)),.c (.v (.int .i64 j21)),.c (.v (.string j22)),.c (.sl 3 j23 none),.c (.sl 5 j24 none),.c (.v (.int .i64 0)),.c (.v (.int .i64 0)),.c (.v (.string ⟨#[]⟩)),.c (.sl 3 [] (some [])),.c (.sl 5 [] (some [])),.c (.sl 6 [] (some []))])],2⟩))∧p18_6 False fu K0 y1 y4 y7 s13 s17 j20 j21 j22 j23 j24 y25 j29 j30) (fun k7 h L hL_6=>?_) (fun k7 h L hL_6=>?_) ?_
 conv=>cbv
 refine z0d hO [.ref 2,.shut] (d_p15 fu O.len hN h) ?_
 intro e Q a b
 conv=>cbv
 refine⟨by subst a hO;rfl,?_⟩
 intro r bs d
 rw [b] at d
 clear a b h
 obtain⟨y75,y76,_,⟨rfl,rfl⟩,h⟩:=d
 conv=>cbv
 exact hL_6 _ _ ⟨y75,y76,⟨(by (conv=>lhs;cbv)<;>(subst hO;rfl)),(by (conv=>lhs;cbv)<;>(subst hO;rfl))⟩,h⟩
 conv=>cbv
 exact hL_6 _ _ ⟨y26,y27,⟨(by (conv=>lhs;cbv)<;>(subst hO;rfl)),(by (conv=>lhs;cbv)<;>(subst hO;rfl))⟩,h⟩
 rintro tm m ⟨j29,j30,hs,h⟩
 unfold p18_6 at h
 obtain⟨rfl,rfl⟩:=hs
 conv=>cbv
 refine z0g hO tiA [0,2,3,54] [0,3000,4000] [] (fun tm m=>∃ (j31:Bool),((tm=frame 0 93 [(0,.p 0 0 0),(2,.p 3000 1 0),(3,.p 4000 1 0),(54,.c (.v (.bool j31)))]∧m=⟨[(0,.blk 0 [.c (.sl 1 j29 none),.c (.v (.int .i64 j30))]),(3000,.blk 1 [.c (.v (.int .i64 0)),.c (.v (.int .i64 0)),.c (.v (.int .i64 0)),.c (.v (.string ⟨#[]⟩)),.c (.v (.string ⟨#[]⟩)),.c (.v (.int .i64 0)),.c (.v (.int .i64 0)),.c (.v (.string ⟨#[]⟩)),.c (.sl 3 [] (some [])),.c (.sl 5 [] (some [])),.c (.v (.int .i64 0)),.c (.v (.int .i64 0)),.c (.v (.string ⟨#[]⟩)),.c (.sl 3 [] (some [])),.c (.sl 5 [] (some [])),.c (.sl 6 [] (some []))]),(4000,.blk 1 [.c (.v (.int .i64 y1)),.c (.v (.int .i64 y4)),.c (.v (.int .i64 y7)),.c (.v (.string s13)),.c (.v (.string s17)),.c (.v (.int .i64 j20)),.c (.v (.int .i64 j21)),.c (.v (.string j22)),.c (.sl 3 j23 none),.c (.sl 5 j24 none),.c (.v (.int .i64 0)),.c (.v (.int .i64 0)),.c (.v (.string ⟨#[]⟩)),.c (.sl 3 [] (some [])),.c (.sl 5 [] (some [])),.c (.sl 6 [] (some []))])],2⟩))∧p18_5 False fu K0 y1 y4 y7 s13 s17 j20 j21 j22 j23 j24 j29 j30 j31) (fun L hL_5=>?_) ?_
 conv=>cbv
 refine br_h hO h (by subst hO;rfl) (fun k6 h=>?_) (fun k6 h=>?_)
 conv=>cbv
 refine br_t hO k6 ?_
 conv=>cbv
 refine br_t hO k6 ?_
 conv=>cbv
 exact hL_5 _ _ ⟨(z0a .eql y25 1),⟨(by (conv=>lhs;cbv)<;>(subst hO;rfl)),(by (conv=>lhs;cbv)<;>(subst hO;rfl))⟩,h⟩
 conv=>cbv
 refine br_f hO k6 ?_
 conv=>cbv
 refine br_f hO k6 ?_
 conv=>cbv
 exact hL_5 _ _ ⟨false,⟨(by (conv=>lhs;cbv)<;>(subst hO;rfl)),(by (conv=>lhs;cbv)<;>(subst hO;rfl))⟩,h⟩
 rintro tm m ⟨j31,hs,h⟩
 unfold p18_5 at h
 obtain⟨rfl,rfl⟩:=hs
 conv=>cbv
 refine z0e hO tiA h (by subst hO;rfl) [0,2,3] [0,3000,4000] [] (fun tm m=>∃ (j32:EL) (j33:Int) (j34:Int) (j35:Int) (j36:ByteArray) (j37:EL) (j38:EL),((tm=frame 0 93 [(0,.p 0 0 0),(2,.p 3000 1 0),(3,.p 4000 1 0)]∧m=⟨[(0,.blk 0 [.c (.sl 1 j32 none),.c (.v (.int .i64 j33))]),(3000,.blk 1 [.c (.v (.int .i64 0)),.c (.v (.int .i64 0)),.c (.v (.int .i64 0)),.c (.v (.string ⟨#[]⟩)),.c (.v (.string ⟨#[]⟩)),.c (.v (.int .i64 0)),.c (.v (.int .i64 0)),.c (.v (.string ⟨#[]⟩)),.c (.sl 3 [] (some [])),.c (.sl 5 [] (some [])),.c (.v (.int .i64 0)),.c (.v (.int .i64 0)),.c (.v (.string ⟨#[]⟩)),.c (.sl 3 [] (some [])),.c (.sl 5 [] (some [])),.c (.sl 6 [] (some []))]),(4000,.blk 1 [.c (.v (.int .i64 y1)),.c (.v (.int .i64 y4)),.c (.v (.int .i64 y7)),.c (.v (.string s13)),.c (.v (.string s17)),.c (.v (.int .i64 j20)),.c (.v (.int .i64 j21)),.c (.v (.string j22)),.c (.sl 3 j23 none),.c (.sl 5 j24 none),.c (.v (.int .i64 j34)),.c (.v (.int .i64 j35)),.c (.v (.string j36)),.c (.sl 3 j37 none),.c (.sl 5 j38 none),.c (.sl 6 [] (some []))])],2⟩)∨(j37=[]∧j38=[]∧tm=frame 0 93 [(0,.p 0 0 0),(2,.p 3000 1 0),(3,.p 4000 1 0)]∧m=⟨[(0,.blk 0 [.c (.sl 1 j32 none),.c (.v (.int .i64 j33))]),(3000,.blk 1 [.c (.v (.int .i64 0)),.c (.v (.int .i64 0)),.c (.v (.int .i64 0)),.c (.v (.string ⟨#[]⟩)),.c (.v (.string ⟨#[]⟩)),.c (.v (.int .i64 0)),.c (.v (.int .i64 0)),.c (.v (.string ⟨#[]⟩)),.c (.sl 3 [] (some [])),.c (.sl 5 [] (some [])),.c (.v (.int .i64 0)),.c (.v (.int .i64 0)),.c (.v (.string ⟨#[]⟩)),.c (.sl 3 [] (some [])),.c (.sl 5 [] (some [])),.c (.sl 6 [] (some []))]),(4000,.blk 1 [.c (.v (.int .i64 y1)),.c (.v (.int .i64 y4)),.c (.v (.int .i64 y7)),.c (.v (.string s13)),.c (.v (.string s17)),.c (.v (.int .i64 j20)),.c (.v (.int .i64 j21)),.c (.v (.string j22)),.c (.sl 3 j23 none),.c (.sl 5 j24 none),.c (.v (.int .i64 j34)),.c (.v (.int .i64 j35)),.c (.v (.string j36)),.c (.sl 3 [] (some [])),.c (.sl 5 [] (some [])),.c (.sl 6 [] (some []))])],2⟩))∧p18_4 False fu K0 y1 y4 y7 s13 s17 j20 j21 j22 j23 j24 j32 j33 j34 j35 j36 j37 j38) (fun k5 h L hL_4=>?_) (fun k5 h L hL_4=>?_) ?_
 conv=>cbv
 refine z0d hO [.ref 2] (d_p19 fu O.len hN h) ?_
 intro e Q a b
 conv=>cbv
 refine⟨by subst a hO;rfl,?_⟩
 intro r bs d
 rw [b] at d
 clear a b h
 obtain⟨y68,y69,y70,y71,y72,y73,y74,⟨rfl,rfl⟩,h⟩:=d
 conv=>cbv
 exact hL_4 _ _ ⟨y73,y74,y68,y69,y70,y71,y72,(.inl ⟨(by (conv=>lhs;cbv)<;>(subst hO;rfl)),(by (conv=>lhs;cbv)<;>(subst hO;rfl))⟩),h⟩
 conv=>cbv
 exact hL_4 _ _ ⟨j29,j30,0,0,⟨#[]⟩,nilE,nilE,(.inr ⟨rfl,rfl,(by (conv=>lhs;cbv)<;>(subst hO;rfl)),(by (conv=>lhs;cbv)<;>(subst hO;rfl))⟩),h⟩
 rintro tm m ⟨j32,j33,j34,j35,j36,j37,j38,hs,h⟩
 unfold p18_4 at h
 rcases hs with hs | hs
 obtain⟨rfl,rfl⟩:=hs
 conv=>cbv
 refine z0d hO [.ref 2] (d_p16 fu O.len hN h) ?_
 intro e Q a b
 conv=>cbv
 refine⟨by subst a hO;rfl,?_⟩
 intro r bs d
 rw [b] at d
 clear a b h
 obtain⟨y39,y40,y41,⟨rfl,rfl⟩,h⟩:=d
 conv=>cbv
 refine z0e hO tiA h (by subst hO;rfl) [0,2,3,5] [0,3000,4000] [] (fun tm m=>∃ (j42:EL) (j43:Int),((tm=frame 0 93 [(0,.p 0 0 0),(2,.p 3000 1 0),(3,.p 4000 1 0),(5,.c (.v (.int .i64 y39)))]∧m=⟨[(0,.blk 0 [.c (.sl 1 j42 none),.c (.v (.int .i64 j43))]),(3000,.blk 1 [.c (.v (.int .i64 0)),.c (.v (.int .i64 0)),.c (.v (.int .i64 0)),.c (.v (.string ⟨#[]⟩)),.c (.v (.string ⟨#[]⟩)),.c (.v (.int .i64 0)),.c (.v (.int .i64 0)),.c (.v (.string ⟨#[]⟩)),.c (.sl 3 [] (some [])),.c (.sl 5 [] (some [])),.c (.v (.int .i64 0)),.c (.v (.int .i64 0)),.c (.v (.string ⟨#[]⟩)),.c (.sl 3 [] (some [])),.c (.sl 5 [] (some [])),.c (.sl 6 [] (some []))]),(4000,.blk 1 [.c (.v (.int .i64 y1)),.c (.v (.int .i64 y4)),.c (.v (.int .i64 y7)),.c (.v (.string s13)),.c (.v (.string s17)),.c (.v (.int .i64 j20)),.c (.v (.int .i64 j21)),.c (.v (.string j22)),.c (.sl 3 j23 none),.c (.sl 5 j24 none),.c (.v (.int .i64 j34)),.c (.v (.int .i64 j35)),.c (.v (.string j36)),.c (.sl 3 j37 none),.c (.sl 5 j38 none),.c (.sl 6 [] (some []))])],2⟩))∧p18_3 False fu K0 y1 y4 y7 s13 s17 j20 j21 j22 j23 j24 j34 j35 j36 j37 j38 y39 j42 j43) (fun k4 h L hL_3=>?_) (fun k4 h L hL_3=>?_) ?_
 conv=>cbv
 refine z0d hO [.ref 2,.shut] (d_p15 fu O.len hN h) ?_
 intro e Q a b
 conv=>cbv
 refine⟨by subst a hO;rfl,?_⟩
 intro r bs d
 rw [b] at d
 clear a b h
 obtain⟨y66,y67,_,⟨rfl,rfl⟩,h⟩:=d
 conv=>cbv
 exact hL_3 _ _ ⟨y66,y67,⟨(by (conv=>lhs;cbv)<;>(subst hO;rfl)),(by (conv=>lhs;cbv)<;>(subst hO;rfl))⟩,h⟩
 conv=>cbv
 exact hL_3 _ _ ⟨y40,y41,⟨(by (conv=>lhs;cbv)<;>(subst hO;rfl)),(by (conv=>lhs;cbv)<;>(subst hO;rfl))⟩,h⟩
 rintro tm m ⟨j42,j43,hs,h⟩
 unfold p18_3 at h
 obtain⟨rfl,rfl⟩:=hs
 conv=>cbv
 refine z0r hO tiA [0,2,3,64,65] [0,3000,4000,90000] [] (fun (n:Nat) tm m=>∃ (z44:EL) (z45:Int) (z46:EL) (z47:Int),((z46=[]∧tm=frame 0 93 [(0,.p 0 0 0),(2,.p 3000 1 0),(3,.p 4000 1 0),(64,.c (.v (.int .i64 y39))),(65,.c (.v (.int .i64 z47)))]∧m=⟨[(0,.blk 0 [.c (.sl 1 z44 none),.c (.v (.int .i64 z45))]),(3000,.blk 1 [.c (.v (.int .i64 0)),.c (.v (.int .i64 0)),.c (.v (.int .i64 0)),.c (.v (.string ⟨#[]⟩)),.c (.v (.string ⟨#[]⟩)),.c (.v (.int .i64 0)),.c (.v (.int .i64 0)),.c (.v (.string ⟨#[]⟩)),.c (.sl 3 [] (some [])),.c (.sl 5 [] (some [])),.c (.v (.int .i64 0)),.c (.v (.int .i64 0)),.c (.v (.string ⟨#[]⟩)),.c (.sl 3 [] (some [])),.c (.sl 5 [] (some [])),.c (.sl 6 [] (some []))]),(4000,.blk 1 [.c (.v (.int .i64 y1)),.c (.v (.int .i64 y4)),.c (.v (.int .i64 y7)),.c (.v (.string s13)),.c (.v (.string s17)),.c (.v (.int .i64 j20)),.c (.v (.int .i64 j21)),.c (.v (.string j22)),.c (.sl 3 j23 none),.c (.sl 5 j24 none),.c (.v (.int .i64 j34)),.c (.v (.int .i64 j35)),.c (.v (.string j36)),.c (.sl 3 j37 none),.c (.sl 5 j38 none),.c (.sl 6 [] (some []))])],2⟩)∨(tm=frame 0 93 [(0,.p 0 0 0),(2,.p 3000 1 0),(3,.p 4000 1 0),(64,.c (.v (.int .i64 y39))),(65,.c (.v (.int .i64 z47)))]∧m=⟨[(0,.blk 0 [.c (.sl 1 z44 none),.c (.v (.int .i64 z45))]),(3000,.blk 1 [.c (.v (.int .i64 0)),.c (.v (.int .i64 0)),.c (.v (.int .i64 0)),.c (.v (.string ⟨#[]⟩)),.c (.v (.string ⟨#[]⟩)),.c (.v (.int .i64 0)),.c (.v (.int .i64 0)),.c (.v (.string ⟨#[]⟩)),.c (.sl 3 [] (some [])),.c (.sl 5 [] (some [])),.c (.v (.int .i64 0)),.c (.v (.int .i64 0)),.c (.v (.string ⟨#[]⟩)),.c (.sl 3 [] (some [])),.c (.sl 5 [] (some [])),.c (.sl 6 [] (some []))]),(4000,.blk 1 [.c (.v (.int .i64 y1)),.c (.v (.int .i64 y4)),.c (.v (.int .i64 y7)),.c (.v (.string s13)),.c (.v (.string s17)),.c (.v (.int .i64 j20)),.c (.v (.int .i64 j21)),.c (.v (.string j22)),.c (.sl 3 j23 none),.c (.sl 5 j24 none),.c (.v (.int .i64 j34)),.c (.v (.int .i64 j35)),.c (.v (.string j36)),.c (.sl 3 j37 none),.c (.sl 5 j38 none),.t 90000 1 (O.len z46)]),(90000,.arr 1 6 z46 none false)],2⟩))∧p18_2L False fu K0 y1 y4 y7 s13 s17 j20 j21 j22 j23 j24 j34 j35 j36 j37 j38 y39 n z44 z45 z46 z47) (fun n=>n) fu ⟨j42,j43,nilE,0,(.inl ⟨rfl,(by (conv=>lhs;cbv)<;>(subst hO;rfl)),(by (conv=>lhs;cbv)<;>(subst hO;rfl))⟩),h⟩ ?_
 rintro n1 tm m L ⟨z44,z45,z46,z47,hs,h⟩ hLn1
 (cases n1 with
 | zero=>rw [p18_2L] at h;exact h.elim
 | succ n1 =>
 rw [p18_2L] at h
 unfold p18_2 at h
 rcases hs with hs | hs
 obtain⟨rfl,rfl,rfl⟩:=hs
 conv=>cbv
 refine br_h hO h (by subst hO;rfl) (fun k1 h=>?_) (fun k1 h=>?_)
 conv=>cbv
 refine z0b hO ?_
 conv=>cbv
 refine br_h hO h (by subst hO;rfl) (fun k2 h=>?_) (fun k2 h=>?_)
 conv=>cbv
 rw [b]
 exact⟨y1,y4,y7,s13,s17,j20,j21,j22,j23,j24,j34,j35,j36,j37,j38,nilE,z44,z45,⟨(by subst hO;rfl),(by subst hO;rfl)⟩,h⟩
 conv=>cbv
 refine z0b hO ?_
 conv=>cbv
 refine z0d hO [.ref 2,.shut] (d_p20 fu O.len hN h) ?_
 intro e Q a b
 conv=>cbv
 refine⟨by subst a hO;rfl,?_⟩
 intro r bs d
 rw [b] at d
 clear a b h
 obtain⟨y48,y49,y50,_,⟨rfl,rfl⟩,h⟩:=d
 conv=>cbv
 refine tob_h hO h (by subst hO;rfl) (fun s51 h=>?_)
 conv=>cbv
 refine z0e hO tiA h (by subst hO;rfl) [0,2,3,6,64,65] [0,3000,4000,7000] [] (fun tm m=>∃ (j52:EL) (j53:Int) (j54:Int) (j55:Int) (j56:ByteArray) (j57:EL) (j58:EL),((tm=frame 0 93 [(0,.p 0 0 0),(2,.p 3000 1 0),(3,.p 4000 1 0),(6,.p 7000 1 0),(64,.c (.v (.int .i64 y39))),(65,.c (.v (.int .i64 z47)))]∧m=⟨[(0,.blk 0 [.c (.sl 1 j52 none),.c (.v (.int .i64 j53))]),(3000,.blk 1 [.c (.v (.int .i64 0)),.c (.v (.int .i64 0)),.c (.v (.int .i64 0)),.c (.v (.string ⟨#[]⟩)),.c (.v (.string ⟨#[]⟩)),.c (.v (.int .i64 0)),.c (.v (.int .i64 0)),.c (.v (.string ⟨#[]⟩)),.c (.sl 3 [] (some [])),.c (.sl 5 [] (some [])),.c (.v (.int .i64 0)),.c (.v (.int .i64 0)),.c (.v (.string ⟨#[]⟩)),.c (.sl 3 [] (some [])),.c (.sl 5 [] (some [])),.c (.sl 6 [] (some []))]),(4000,.blk 1 [.c (.v (.int .i64 y1)),.c (.v (.int .i64 y4)),.c (.v (.int .i64 y7)),.c (.v (.string s13)),.c (.v (.string s17)),.c (.v (.int .i64 j20)),.c (.v (.int .i64 j21)),.c (.v (.string j22)),.c (.sl 3 j23 none),.c (.sl 5 j24 none),.c (.v (.int .i64 j34)),.c (.v (.int .i64 j35)),.c (.v (.string j36)),.c (.sl 3 j37 none),.c (.sl 5 j38 none),.c (.sl 6 [] (some []))]),(7000,.blk 1 [.c (.v (.string s51)),.c (.v (.int .i64 j54)),.c (.v (.int .i64 j55)),.c (.v (.string j56)),.c (.sl 3 j57 none),.c (.sl 5 j58 none)])],2⟩)∨(j57=[]∧j58=[]∧tm=frame 0 93 [(0,.p 0 0 0),(2,.p 3000 1 0),(3,.p 4000 1 0),(6,.p 7000 1 0),(64,.c (.v (.int .i64 y39))),(65,.c (.v (.int .i64 z47)))]∧m=⟨[(0,.blk 0 [.c (.sl 1 j52 none),.c (.v (.int .i64 j53))]),(3000,.blk 1 [.c (.v (.int .i64 0)),.c (.v (.int .i64 0)),.c (.v (.int .i64 0)),.c (.v (.string ⟨#[]⟩)),.c (.v (.string ⟨#[]⟩)),.c (.v (.int .i64 0)),.c (.v (.int .i64 0)),.c (.v (.string ⟨#[]⟩)),.c (.sl 3 [] (some [])),.c (.sl 5 [] (some [])),.c (.v (.int .i64 0)),.c (.v (.int .i64 0)),.c (.v (.string ⟨#[]⟩)),.c (.sl 3 [] (some [])),.c (.sl 5 [] (some [])),.c (.sl 6 [] (some []))]),(4000,.blk 1 [.c (.v (.int .i64 y1)),.c (.v (.int .i64 y4)),.c (.v (.int .i64 y7)),.c (.v (.string s13)),.c (.v (.string s17)),.c (.v (.int .i64 j20)),.c (.v (.int .i64 j21)),.c (.v (.string j22)),.c (.sl 3 j23 none),.c (.sl 5 j24 none),.c (.v (.int .i64 j34)),.c (.v (.int .i64 j35)),.c (.v (.string j36)),.c (.sl 3 j37 none),.c (.sl 5 j38 none),.c (.sl 6 [] (some []))]),(7000,.blk 1 [.c (.v (.string s51)),.c (.v (.int .i64 j54)),.c (.v (.int .i64 j55)),.c (.v (.string j56)),.c (.sl 3 [] (some [])),.c (.sl 5 [] (some []))])],2⟩))∧p18_1 False fu K0 (p18_2L False fu K0 y1 y4 y7 s13 s17 j20 j21 j22 j23 j24 j34 j35 j36 j37 j38 y39 n1) nilE z47 s51 j52 j53 j54 j55 j56 j57 j58) (fun k3 h L hL_1=>?_) (fun k3 h L hL_1=>?_) ?_
 conv=>cbv
 refine z0d hO [.ref 2] (d_p19 fu O.len hN h) ?_
 intro e Q a b
 conv=>cbv
 refine⟨by subst a hO;rfl,?_⟩
 intro r bs d
 rw [b] at d
 clear a b h
 obtain⟨y59,y60,y61,y62,y63,y64,y65,⟨rfl,rfl⟩,h⟩:=d
 conv=>cbv
 exact hL_1 _ _ ⟨y64,y65,y59,y60,y61,y62,y63,(.inl ⟨(by (conv=>lhs;cbv)<;>(subst hO;rfl)),(by (conv=>lhs;cbv)<;>(subst hO;rfl))⟩),h⟩
 conv=>cbv
 exact hL_1 _ _ ⟨y49,y50,0,0,⟨#[]⟩,nilE,nilE,(.inr ⟨rfl,rfl,(by (conv=>lhs;cbv)<;>(subst hO;rfl)),(by (conv=>lhs;cbv)<;>(subst hO;rfl))⟩),h⟩
 rintro tm m ⟨j52,j53,j54,j55,j56,j57,j58,hs,h⟩
 unfold p18_1 at h
 rcases hs with hs | hs
 obtain⟨rfl,rfl⟩:=hs
 conv=>cbv
 refine z0z hO h (fun g=>(by subst hO;exact g)) (fun h=>?_)
 conv=>cbv
 refine and_h h (fun g=>(by subst hO;exact g)) (fun h=>?_)
 refine z2i hO (by subst hO;exact List.cons_ne_nil _ _) ?_
 conv=>cbv
 exact hLn1 n1 _ _ (Nat.lt_succ_self n1) ⟨j52,j53,(nilE++(List.take 1 [[(CV.v (.string s51)),(CV.v (.int .i64 j54)),(CV.v (.int .i64 j55)),(CV.v (.string j56)),(CV.sl 3 j57 none),(CV.sl 5 j58 none)]])),z0c .add .i64 z47 1,(.inr ⟨(by (conv=>lhs;cbv)<;>(subst hO;rfl)),(by (conv=>lhs;cbv)<;>(subst hO;rfl))⟩),h⟩
 obtain⟨rfl,rfl,rfl,rfl⟩:=hs
 conv=>cbv
 refine z0z hO h (fun g=>(by subst hO;exact g)) (fun h=>?_)
 conv=>cbv
 refine and_h h (fun g=>(by subst hO;exact g)) (fun h=>?_)
 refine z2i hO (by subst hO;exact List.cons_ne_nil _ _) ?_
 conv=>cbv
 exact hLn1 n1 _ _ (Nat.lt_succ_self n1) ⟨j52,j53,(nilE++(List.take 1 [[(CV.v (.string s51)),(CV.v (.int .i64 j54)),(CV.v (.int .i64 j55)),(CV.v (.string j56)),(CV.sl 3 nilE none),(CV.sl 5 nilE none)]])),z0c .add .i64 z47 1,(.inr ⟨(by (conv=>lhs;cbv)<;>(subst hO;rfl)),(by (conv=>lhs;cbv)<;>(subst hO;rfl))⟩),h⟩
 conv=>cbv
 rw [b]
 exact⟨y1,y4,y7,s13,s17,j20,j21,j22,j23,j24,j34,j35,j36,j37,j38,nilE,z44,z45,⟨(by subst hO;rfl),(by subst hO;rfl)⟩,h⟩
 obtain⟨rfl,rfl⟩:=hs
 conv=>cbv
 refine br_h hO h (by subst hO;rfl) (fun k1 h=>?_) (fun k1 h=>?_)
 conv=>cbv
 refine z0b hO ?_
 conv=>cbv
 refine br_h hO h (by subst hO;rfl) (fun k2 h=>?_) (fun k2 h=>?_)
 conv=>cbv
 refine z0k hO ?_
 conv=>cbv
 rw [b]
 exact⟨y1,y4,y7,s13,s17,j20,j21,j22,j23,j24,j34,j35,j36,j37,j38,z46,z44,z45,⟨(by subst hO;rfl),(by subst hO;rfl)⟩,h⟩
 conv=>cbv
 refine z0b hO ?_
 conv=>cbv
 refine z0d hO [.ref 2,.shut] (d_p20 fu O.len hN h) ?_
 intro e Q a b
 conv=>cbv
 refine⟨by subst a hO;rfl,?_⟩
 intro r bs d
 rw [b] at d
 clear a b h
 obtain⟨y48,y49,y50,_,⟨rfl,rfl⟩,h⟩:=d
 conv=>cbv
 refine tob_h hO h (by subst hO;rfl) (fun s51 h=>?_)
 conv=>cbv
 refine z0e hO tiA h (by subst hO;rfl) [0,2,3,6,64,65] [0,3000,4000,7000,90000] [] (fun tm m=>∃ (j52:EL) (j53:Int) (j54:Int) (j55:Int) (j56:ByteArray) (j57:EL) (j58:EL),((tm=frame 0 93 [(0,.p 0 0 0),(2,.p 3000 1 0),(3,.p 4000 1 0),(6,.p 7000 1 0),(64,.c (.v (.int .i64 y39))),(65,.c (.v (.int .i64 z47)))]∧m=⟨[(0,.blk 0 [.c (.sl 1 j52 none),.c (.v (.int .i64 j53))]),(3000,.blk 1 [.c (.v (.int .i64 0)),.c (.v (.int .i64 0)),.c (.v (.int .i64 0)),.c (.v (.string ⟨#[]⟩)),.c (.v (.string ⟨#[]⟩)),.c (.v (.int .i64 0)),.c (.v (.int .i64 0)),.c (.v (.string ⟨#[]⟩)),.c (.sl 3 [] (some [])),.c (.sl 5 [] (some [])),.c (.v (.int .i64 0)),.c (.v (.int .i64 0)),.c (.v (.string ⟨#[]⟩)),.c (.sl 3 [] (some [])),.c (.sl 5 [] (some [])),.c (.sl 6 [] (some []))]),(4000,.blk 1 [.c (.v (.int .i64 y1)),.c (.v (.int .i64 y4)),.c (.v (.int .i64 y7)),.c (.v (.string s13)),.c (.v (.string s17)),.c (.v (.int .i64 j20)),.c (.v (.int .i64 j21)),.c (.v (.string j22)),.c (.sl 3 j23 none),.c (.sl 5 j24 none),.c (.v (.int .i64 j34)),.c (.v (.int .i64 j35)),.c (.v (.string j36)),.c (.sl 3 j37 none),.c (.sl 5 j38 none),.t 90000 1 (O.len z46)]),(7000,.blk 1 [.c (.v (.string s51)),.c (.v (.int .i64 j54)),.c (.v (.int .i64 j55)),.c (.v (.string j56)),.c (.sl 3 j57 none),.c (.sl 5 j58 none)]),(90000,.arr 1 6 z46 none false)],2⟩)∨(j57=[]∧j58=[]∧tm=frame 0 93 [(0,.p 0 0 0),(2,.p 3000 1 0),(3,.p 4000 1 0),(6,.p 7000 1 0),(64,.c (.v (.int .i64 y39))),(65,.c (.v (.int .i64 z47)))]∧m=⟨[(0,.blk 0 [.c (.sl 1 j52 none),.c (.v (.int .i64 j53))]),(3000,.blk 1 [.c (.v (.int .i64 0)),.c (.v (.int .i64 0)),.c (.v (.int .i64 0)),.c (.v (.string ⟨#[]⟩)),.c (.v (.string ⟨#[]⟩)),.c (.v (.int .i64 0)),.c (.v (.int .i64 0)),.c (.v (.string ⟨#[]⟩)),.c (.sl 3 [] (some [])),.c (.sl 5 [] (some [])),.c (.v (.int .i64 0)),.c (.v (.int .i64 0)),.c (.v (.string ⟨#[]⟩)),.c (.sl 3 [] (some [])),.c (.sl 5 [] (some [])),.c (.sl 6 [] (some []))]),(4000,.blk 1 [.c (.v (.int .i64 y1)),.c (.v (.int .i64 y4)),.c (.v (.int .i64 y7)),.c (.v (.string s13)),.c (.v (.string s17)),.c (.v (.int .i64 j20)),.c (.v (.int .i64 j21)),.c (.v (.string j22)),.c (.sl 3 j23 none),.c (.sl 5 j24 none),.c (.v (.int .i64 j34)),.c (.v (.int .i64 j35)),.c (.v (.string j36)),.c (.sl 3 j37 none),.c (.sl 5 j38 none),.t 90000 1 (O.len z46)]),(7000,.blk 1 [.c (.v (.string s51)),.c (.v (.int .i64 j54)),.c (.v (.int .i64 j55)),.c (.v (.string j56)),.c (.sl 3 [] (some [])),.c (.sl 5 [] (some []))]),(90000,.arr 1 6 z46 none false)],2⟩))∧p18_1 False fu K0 (p18_2L False fu K0 y1 y4 y7 s13 s17 j20 j21 j22 j23 j24 j34 j35 j36 j37 j38 y39 n1) z46 z47 s51 j52 j53 j54 j55 j56 j57 j58) (fun k3 h L hL_1=>?_) (fun k3 h L hL_1=>?_) ?_
 conv=>cbv
 refine z0d hO [.ref 2] (d_p19 fu O.len hN h) ?_
 intro e Q a b
 conv=>cbv
 refine⟨by subst a hO;rfl,?_⟩
 intro r bs d
 rw [b] at d
 clear a b h
 obtain⟨y59,y60,y61,y62,y63,y64,y65,⟨rfl,rfl⟩,h⟩:=d
 conv=>cbv
 exact hL_1 _ _ ⟨y64,y65,y59,y60,y61,y62,y63,(.inl ⟨(by (conv=>lhs;cbv)<;>(subst hO;rfl)),(by (conv=>lhs;cbv)<;>(subst hO;rfl))⟩),h⟩
 conv=>cbv
 exact hL_1 _ _ ⟨y49,y50,0,0,⟨#[]⟩,nilE,nilE,(.inr ⟨rfl,rfl,(by (conv=>lhs;cbv)<;>(subst hO;rfl)),(by (conv=>lhs;cbv)<;>(subst hO;rfl))⟩),h⟩
 rintro tm m ⟨j52,j53,j54,j55,j56,j57,j58,hs,h⟩
 unfold p18_1 at h
 rcases hs with hs | hs
 obtain⟨rfl,rfl⟩:=hs
 conv=>cbv
 refine z0z hO h (fun g=>(by subst hO;exact g)) (fun h=>?_)
 conv=>cbv
 refine⟨(by subst hO;rfl),?_⟩
 refine and_h h (fun g=>(by subst hO;exact g)) (fun h=>?_)
 exact hLn1 n1 _ _ (Nat.lt_succ_self n1) ⟨j52,j53,(z46++(List.take 1 [[(CV.v (.string s51)),(CV.v (.int .i64 j54)),(CV.v (.int .i64 j55)),(CV.v (.string j56)),(CV.sl 3 j57 none),(CV.sl 5 j58 none)]])),z0c .add .i64 z47 1,(.inr ⟨(by (conv=>lhs;cbv)<;>(subst hO;rfl)),(by (conv=>lhs;cbv)<;>(subst hO;rfl))⟩),h⟩
 obtain⟨rfl,rfl,rfl,rfl⟩:=hs
 conv=>cbv
 refine z0z hO h (fun g=>(by subst hO;exact g)) (fun h=>?_)
 conv=>cbv
 refine⟨(by subst hO;rfl),?_⟩
 refine and_h h (fun g=>(by subst hO;exact g)) (fun h=>?_)
 exact hLn1 n1 _ _ (Nat.lt_succ_self n1) ⟨j52,j53,(z46++(List.take 1 [[(CV.v (.string s51)),(CV.v (.int .i64 j54)),(CV.v (.int .i64 j55)),(CV.v (.string j56)),(CV.sl 3 nilE none),(CV.sl 5 nilE none)]])),z0c .add .i64 z47 1,(.inr ⟨(by (conv=>lhs;cbv)<;>(subst hO;rfl)),(by (conv=>lhs;cbv)<;>(subst hO;rfl))⟩),h⟩
 conv=>cbv
 refine z0k hO ?_
 conv=>cbv
 rw [b]
 exact⟨y1,y4,y7,s13,s17,j20,j21,j22,j23,j24,j34,j35,j36,j37,j38,z46,z44,z45,⟨(by subst hO;rfl),(by subst hO;rfl)⟩,h⟩)
 obtain⟨rfl,rfl,rfl,rfl⟩:=hs
 conv=>cbv
 refine z0d hO [.ref 2] (d_p16 fu O.len hN h) ?_
 intro e Q a b
 conv=>cbv
 refine⟨by subst a hO;rfl,?_⟩
 intro r bs d
 rw [b] at d
 clear a b h
 obtain⟨y39,y40,y41,⟨rfl,rfl⟩,h⟩:=d
 conv=>cbv
 refine z0e hO tiA h (by subst hO;rfl) [0,2,3,5] [0,3000,4000] [] (fun tm m=>∃ (j42:EL) (j43:Int),((tm=frame 0 93 [(0,.p 0 0 0),(2,.p 3000 1 0),(3,.p 4000 1 0),(5,.c (.v (.int .i64 y39)))]∧m=⟨[(0,.blk 0 [.c (.sl 1 j42 none),.c (.v (.int .i64 j43))]),(3000,.blk 1 [.c (.v (.int .i64 0)),.c (.v (.int .i64 0)),.c (.v (.int .i64 0)),.c (.v (.string ⟨#[]⟩)),.c (.v (.string ⟨#[]⟩)),.c (.v (.int .i64 0)),.c (.v (.int .i64 0)),.c (.v (.string ⟨#[]⟩)),.c (.sl 3 [] (some [])),.c (.sl 5 [] (some [])),.c (.v (.int .i64 0)),.c (.v (.int .i64 0)),.c (.v (.string ⟨#[]⟩)),.c (.sl 3 [] (some [])),.c (.sl 5 [] (some [])),.c (.sl 6 [] (some []))]),(4000,.blk 1 [.c (.v (.int .i64 y1)),.c (.v (.int .i64 y4)),.c (.v (.int .i64 y7)),.c (.v (.string s13)),.c (.v (.string s17)),.c (.v (.int .i64 j20)),.c (.v (.int .i64 j21)),.c (.v (.string j22)),.c (.sl 3 j23 none),.c (.sl 5 j24 none),.c (.v (.int .i64 j34)),.c (.v (.int .i64 j35)),.c (.v (.string j36)),.c (.sl 3 [] (some [])),.c (.sl 5 [] (some [])),.c (.sl 6 [] (some []))])],2⟩))∧p18_3 False fu K0 y1 y4 y7 s13 s17 j20 j21 j22 j23 j24 j34 j35 j36 nilE nilE y39 j42 j43) (fun k4 h L hL_3=>?_) (fun k4 h L hL_3=>?_) ?_
 conv=>cbv
 refine z0d hO [.ref 2,.shut] (d_p15 fu O.len hN h) ?_
 intro e Q a b
 conv=>cbv
 refine⟨by subst a hO;rfl,?_⟩
 intro r bs d
 rw [b] at d
 clear a b h
 obtain⟨y66,y67,_,⟨rfl,rfl⟩,h⟩:=d
 conv=>cbv
 exact hL_3 _ _ ⟨y66,y67,⟨(by (conv=>lhs;cbv)<;>(subst hO;rfl)),(by (conv=>lhs;cbv)<;>(subst hO;rfl))⟩,h⟩
 conv=>cbv
 exact hL_3 _ _ ⟨y40,y41,⟨(by (conv=>lhs;cbv)<;>(subst hO;rfl)),(by (conv=>lhs;cbv)<;>(subst hO;rfl))⟩,h⟩
 rintro tm m ⟨j42,j43,hs,h⟩
 unfold p18_3 at h
 obtain⟨rfl,rfl⟩:=hs
 conv=>cbv
 refine z0r hO tiA [0,2,3,64,65] [0,3000,4000,90000] [] (fun (n:Nat) tm m=>∃ (z44:EL) (z45:Int) (z46:EL) (z47:Int),((z46=[]∧tm=frame 0 93 [(0,.p 0 0 0),(2,.p 3000 1 0),(3,.p 4000 1 0),(64,.c (.v (.int .i64 y39))),(65,.c (.v (.int .i64 z47)))]∧m=⟨[(0,.blk 0 [.c (.sl 1 z44 none),.c (.v (.int .i64 z45))]),(3000,.blk 1 [.c (.v (.int .i64 0)),.c (.v (.int .i64 0)),.c (.v (.int .i64 0)),.c (.v (.string ⟨#[]⟩)),.c (.v (.string ⟨#[]⟩)),.c (.v (.int .i64 0)),.c (.v (.int .i64 0)),.c (.v (.string ⟨#[]⟩)),.c (.sl 3 [] (some [])),.c (.sl 5 [] (some [])),.c (.v (.int .i64 0)),.c (.v (.int .i64 0)),.c (.v (.string ⟨#[]⟩)),.c (.sl 3 [] (some [])),.c (.sl 5 [] (some [])),.c (.sl 6 [] (some []))]),(4000,.blk 1 [.c (.v (.int .i64 y1)),.c (.v (.int .i64 y4)),.c (.v (.int .i64 y7)),.c (.v (.string s13)),.c (.v (.string s17)),.c (.v (.int .i64 j20)),.c (.v (.int .i64 j21)),.c (.v (.string j22)),.c (.sl 3 j23 none),.c (.sl 5 j24 none),.c (.v (.int .i64 j34)),.c (.v (.int .i64 j35)),.c (.v (.string j36)),.c (.sl 3 [] (some [])),.c (.sl 5 [] (some [])),.c (.sl 6 [] (some []))])],2⟩)∨(tm=frame 0 93 [(0,.p 0 0 0),(2,.p 3000 1 0),(3,.p 4000 1 0),(64,.c (.v (.int .i64 y39))),(65,.c (.v (.int .i64 z47)))]∧m=⟨[(0,.blk 0 [.c (.sl 1 z44 none),.c (.v (.int .i64 z45))]),(3000,.blk 1 [.c (.v (.int .i64 0)),.c (.v (.int .i64 0)),.c (.v (.int .i64 0)),.c (.v (.string ⟨#[]⟩)),.c (.v (.string ⟨#[]⟩)),.c (.v (.int .i64 0)),.c (.v (.int .i64 0)),.c (.v (.string ⟨#[]⟩)),.c (.sl 3 [] (some [])),.c (.sl 5 [] (some [])),.c (.v (.int .i64 0)),.c (.v (.int .i64 0)),.c (.v (.string ⟨#[]⟩)),.c (.sl 3 [] (some [])),.c (.sl 5 [] (some [])),.c (.sl 6 [] (some []))]),(4000,.blk 1 [.c (.v (.int .i64 y1)),.c (.v (.int .i64 y4)),.c (.v (.int .i64 y7)),.c (.v (.string s13)),.c (.v (.string s17)),.c (.v (.int .i64 j20)),.c (.v (.int .i64 j21)),.c (.v (.string j22)),.c (.sl 3 j23 none),.c (.sl 5 j24 none),.c (.v (.int .i64 j34)),.c (.v (.int .i64 j35)),.c (.v (.string j36)),.c (.sl 3 [] (some [])),.c (.sl 5 [] (some [])),.t 90000 1 (O.len z46)]),(90000,.arr 1 6 z46 none false)],2⟩))∧p18_2L False fu K0 y1 y4 y7 s13 s17 j20 j21 j22 j23 j24 j34 j35 j36 nilE nilE y39 n z44 z45 z46 z47) (fun n=>n) fu ⟨j42,j43,nilE,0,(.inl ⟨rfl,(by (conv=>lhs;cbv)<;>(subst hO;rfl)),(by (conv=>lhs;cbv)<;>(subst hO;rfl))⟩),h⟩ ?_
 rintro n1 tm m L ⟨z44,z45,z46,z47,hs,h⟩ hLn1
 (cases n1 with
 | zero=>rw [p18_2L] at h;exact h.elim
 | succ n1 =>
 rw [p18_2L] at h
 unfold p18_2 at h
 rcases hs with hs | hs
 obtain⟨rfl,rfl,rfl⟩:=hs
 conv=>cbv
 refine br_h hO h (by subst hO;rfl) (fun k1 h=>?_) (fun k1 h=>?_)
 conv=>cbv
 refine z0b hO ?_
 conv=>cbv
 refine br_h hO h (by subst hO;rfl) (fun k2 h=>?_) (fun k2 h=>?_)
 conv=>cbv
 rw [b]
 exact⟨y1,y4,y7,s13,s17,j20,j21,j22,j23,j24,j34,j35,j36,nilE,nilE,nilE,z44,z45,⟨(by subst hO;rfl),(by subst hO;rfl)⟩,h⟩
 conv=>cbv
 refine z0b hO ?_
 conv=>cbv
 refine z0d hO [.ref 2,.shut] (d_p20 fu O.len hN h) ?_
 intro e Q a b
 conv=>cbv
 refine⟨by subst a hO;rfl,?_⟩
 intro r bs d
 rw [b] at d
 clear a b h
 obtain⟨y48,y49,y50,_,⟨rfl,rfl⟩,h⟩:=d
 conv=>cbv
 refine tob_h hO h (by subst hO;rfl) (fun s51 h=>?_)
 conv=>cbv
 refine z0e hO tiA h (by subst hO;rfl) [0,2,3,6,64,65] [0,3000,4000,7000] [] (fun tm m=>∃ (j52:EL) (j53:Int) (j54:Int) (j55:Int) (j56:ByteArray) (j57:EL) (j58:EL),((tm=frame 0 93 [(0,.p 0 0 0),(2,.p 3000 1 0),(3,.p 4000 1 0),(6,.p 7000 1 0),(64,.c (.v (.int .i64 y39))),(65,.c (.v (.int .i64 z47)))]∧m=⟨[(0,.blk 0 [.c (.sl 1 j52 none),.c (.v (.int .i64 j53))]),(3000,.blk 1 [.c (.v (.int .i64 0)),.c (.v (.int .i64 0)),.c (.v (.int .i64 0)),.c (.v (.string ⟨#[]⟩)),.c (.v (.string ⟨#[]⟩)),.c (.v (.int .i64 0)),.c (.v (.int .i64 0)),.c (.v (.string ⟨#[]⟩)),.c (.sl 3 [] (some [])),.c (.sl 5 [] (some [])),.c (.v (.int .i64 0)),.c (.v (.int .i64 0)),.c (.v (.string ⟨#[]⟩)),.c (.sl 3 [] (some [])),.c (.sl 5 [] (some [])),.c (.sl 6 [] (some []))]),(4000,.blk 1 [.c (.v (.int .i64 y1)),.c (.v (.int .i64 y4)),.c (.v (.int .i64 y7)),.c (.v (.string s13)),.c (.v (.string s17)),.c (.v (.int .i64 j20)),.c (.v (.int .i64 j21)),.c (.v (.string j22)),.c (.sl 3 j23 none),.c (.sl 5 j24 none),.c (.v (.int .i64 j34)),.c (.v (.int .i64 j35)),.c (.v (.string j36)),.c (.sl 3 [] (some [])),.c (.sl 5 [] (some [])),.c (.sl 6 [] (some []))]),(7000,.blk 1 [.c (.v (.string s51)),.c (.v (.int .i64 j54)),.c (.v (.int .i64 j55)),.c (.v (.string j56)),.c (.sl 3 j57 none),.c (.sl 5 j58 none)])],2⟩)∨(j57=[]∧j58=[]∧tm=frame 0 93 [(0,.p 0 0 0),(2,.p 3000 1 0),(3,.p 4000 1 0),(6,.p 7000 1 0),(64,.c (.v (.int .i64 y39))),(65,.c (.v (.int .i64 z47)))]∧m=⟨[(0,.blk 0 [.c (.sl 1 j52 none),.c (.v (.int .i64 j53))]),(3000,.blk 1 [.c (.v (.int .i64 0)),.c (.v (.int .i64 0)),.c (.v (.int .i64 0)),.c (.v (.string ⟨#[]⟩)),.c (.v (.string ⟨#[]⟩)),.c (.v (.int .i64 0)),.c (.v (.int .i64 0)),.c (.v (.string ⟨#[]⟩)),.c (.sl 3 [] (some [])),.c (.sl 5 [] (some [])),.c (.v (.int .i64 0)),.c (.v (.int .i64 0)),.c (.v (.string ⟨#[]⟩)),.c (.sl 3 [] (some [])),.c (.sl 5 [] (some [])),.c (.sl 6 [] (some []))]),(4000,.blk 1 [.c (.v (.int .i64 y1)),.c (.v (.int .i64 y4)),.c (.v (.int .i64 y7)),.c (.v (.string s13)),.c (.v (.string s17)),.c (.v (.int .i64 j20)),.c (.v (.int .i64 j21)),.c (.v (.string j22)),.c (.sl 3 j23 none),.c (.sl 5 j24 none),.c (.v (.int .i64 j34)),.c (.v (.int .i64 j35)),.c (.v (.string j36)),.c (.sl 3 [] (some [])),.c (.sl 5 [] (some [])),.c (.sl 6 [] (some []))]),(7000,.blk 1 [.c (.v (.string s51)),.c (.v (.int .i64 j54)),.c (.v (.int .i64 j55)),.c (.v (.string j56)),.c (.sl 3 [] (some [])),.c (.sl 5 [] (some []))])],2⟩))∧p18_1 False fu K0 (p18_2L False fu K0 y1 y4 y7 s13 s17 j20 j21 j22 j23 j24 j34 j35 j36 nilE nilE y39 n1) nilE z47 s51 j52 j53 j54 j55 j56 j57 j58) (fun k3 h L hL_1=>?_) (fun k3 h L hL_1=>?_) ?_
 conv=>cbv
 refine z0d hO [.ref 2] (d_p19 fu O.len hN h) ?_
 intro e Q a b
 conv=>cbv
 refine⟨by subst a hO;rfl,?_⟩
 intro r bs d
 rw [b] at d
 clear a b h
 obtain⟨y59,y60,y61,y62,y63,y64,y65,⟨rfl,rfl⟩,h⟩:=d
 conv=>cbv
 exact hL_1 _ _ ⟨y64,y65,y59,y60,y61,y62,y63,(.inl ⟨(by (conv=>lhs;cbv)<;>(subst hO;rfl)),(by (conv=>lhs;cbv)<;>(subst hO;rfl))⟩),h⟩
 conv=>cbv
 exact hL_1 _ _ ⟨y49,y50,0,0,⟨#[]⟩,nilE,nilE,(.inr ⟨rfl,rfl,(by (conv=>lhs;cbv)<;>(subst hO;rfl)),(by (conv=>lhs;cbv)<;>(subst hO;rfl))⟩),h⟩
 rintro tm m ⟨j52,j53,j54,j55,j56,j57,j58,hs,h⟩
 unfold p18_1 at h
 rcases hs with hs | hs
 obtain⟨rfl,rfl⟩:=hs
 conv=>cbv
 refine z0z hO h (fun g=>(by subst hO;exact g)) (fun h=>?_)
 conv=>cbv
 refine and_h h (fun g=>(by subst hO;exact g)) (fun h=>?_)
 refine z2i hO (by subst hO;exact List.cons_ne_nil _ _) ?_
 conv=>cbv
 exact hLn1 n1 _ _ (Nat.lt_succ_self n1) ⟨j52,j53,(nilE++(List.take 1 [[(CV.v (.string s51)),(CV.v (.int .i64 j54)),(CV.v (.int .i64 j55)),(CV.v (.string j56)),(CV.sl 3 j57 none),(CV.sl 5 j58 none)]])),z0c .add .i64 z47 1,(.inr ⟨(by (conv=>lhs;cbv)<;>(subst hO;rfl)),(by (conv=>lhs;cbv)<;>(subst hO;rfl))⟩),h⟩
 obtain⟨rfl,rfl,rfl,rfl⟩:=hs
 conv=>cbv
 refine z0z hO h (fun g=>(by subst hO;exact g)) (fun h=>?_)
 conv=>cbv
 refine and_h h (fun g=>(by subst hO;exact g)) (fun h=>?_)
 refine z2i hO (by subst hO;exact List.cons_ne_nil _ _) ?_
 conv=>cbv
 exact hLn1 n1 _ _ (Nat.lt_succ_self n1) ⟨j52,j53,(nilE++(List.take 1 [[(CV.v (.string s51)),(CV.v (.int .i64 j54)),(CV.v (.int .i64 j55)),(CV.v (.string j56)),(CV.sl 3 nilE none),(CV.sl 5 nilE none)]])),z0c .add .i64 z47 1,(.inr ⟨(by (conv=>lhs;cbv)<;>(subst hO;rfl)),(by (conv=>lhs;cbv)<;>(subst hO;rfl))⟩),h⟩
 conv=>cbv
 rw [b]
 exact⟨y1,y4,y7,s13,s17,j20,j21,j22,j23,j24,j34,j35,j36,nilE,nilE,nilE,z44,z45,⟨(by subst hO;rfl),(by subst hO;rfl)⟩,h⟩
 obtain⟨rfl,rfl⟩:=hs
 conv=>cbv
 refine br_h hO h (by subst hO;rfl) (fun k1 h=>?_) (fun k1 h=>?_)
 conv=>cbv
 refine z0b hO ?_
 conv=>cbv
 refine br_h hO h (by subst hO;rfl) (fun k2 h=>?_) (fun k2 h=>?_)
 conv=>cbv
 refine z0k hO ?_
 conv=>cbv
 rw [b]
 exact⟨y1,y4,y7,s13,s17,j20,j21,j22,j23,j24,j34,j35,j36,nilE,nilE,z46,z44,z45,⟨(by subst hO;rfl),(by subst hO;rfl)⟩,h⟩
 conv=>cbv
 refine z0b hO ?_
 conv=>cbv
 refine z0d hO [.ref 2,.shut] (d_p20 fu O.len hN h) ?_
 intro e Q a b
 conv=>cbv
 refine⟨by subst a hO;rfl,?_⟩
 intro r bs d
 rw [b] at d
 clear a b h
 obtain⟨y48,y49,y50,_,⟨rfl,rfl⟩,h⟩:=d
 conv=>cbv
 refine tob_h hO h (by subst hO;rfl) (fun s51 h=>?_)
 conv=>cbv
 refine z0e hO tiA h (by subst hO;rfl) [0,2,3,6,64,65] [0,3000,4000,7000,90000] [] (fun tm m=>∃ (j52:EL) (j53:Int) (j54:Int) (j55:Int) (j56:ByteArray) (j57:EL) (j58:EL),((tm=frame 0 93 [(0,.p 0 0 0),(2,.p 3000 1 0),(3,.p 4000 1 0),(6,.p 7000 1 0),(64,.c (.v (.int .i64 y39))),(65,.c (.v (.int .i64 z47)))]∧m=⟨[(0,.blk 0 [.c (.sl 1 j52 none),.c (.v (.int .i64 j53))]),(3000,.blk 1 [.c (.v (.int .i64 0)),.c (.v (.int .i64 0)),.c (.v (.int .i64 0)),.c (.v (.string ⟨#[]⟩)),.c (.v (.string ⟨#[]⟩)),.c (.v (.int .i64 0)),.c (.v (.int .i64 0)),.c (.v (.string ⟨#[]⟩)),.c (.sl 3 [] (some [])),.c (.sl 5 [] (some [])),.c (.v (.int .i64 0)),.c (.v (.int .i64 0)),.c (.v (.string ⟨#[]⟩)),.c (.sl 3 [] (some [])),.c (.sl 5 [] (some [])),.c (.sl 6 [] (some []))]),(4000,.blk 1 [.c (.v (.int .i64 y1)),.c (.v (.int .i64 y4)),.c (.v (.int .i64 y7)),.c (.v (.string s13)),.c (.v (.string s17)),.c (.v (.int .i64 j20)),.c (.v (.int .i64 j21)),.c (.v (.string j22)),.c (.sl 3 j23 none),.c (.sl 5 j24 none),.c (.v (.int .i64 j34)),.c (.v (.int .i64 j35)),.c (.v (.string j36)),.c (.sl 3 [] (some [])),.c (.sl 5 [] (some [])),.t 90000 1 (O.len z46)]),(7000,.blk 1 [.c (.v (.string s51)),.c (.v (.int .i64 j54)),.c (.v (.int .i64 j55)),.c (.v (.string j56)),.c (.sl 3 j57 none),.c (.sl 5 j58 none)]),(90000,.arr 1 6 z46 none false)],2⟩)∨(j57=[]∧j58=[]∧tm=frame 0 93 [(0,.p 0 0 0),(2,.p 3000 1 0),(3,.p 4000 1 0),(6,.p 7000 1 0),(64,.c (.v (.int .i64 y39))),(65,.c (.v (.int .i64 z47)))]∧m=⟨[(0,.blk 0 [.c (.sl 1 j52 none),.c (.v (.int .i64 j53))]),(3000,.blk 1 [.c (.v (.int .i64 0)),.c (.v (.int .i64 0)),.c (.v (.int .i64 0)),.c (.v (.string ⟨#[]⟩)),.c (.v (.string ⟨#[]⟩)),.c (.v (.int .i64 0)),.c (.v (.int .i64 0)),.c (.v (.string ⟨#[]⟩)),.c (.sl 3 [] (some [])),.c (.sl 5 [] (some [])),.c (.v (.int .i64 0)),.c (.v (.int .i64 0)),.c (.v (.string ⟨#[]⟩)),.c (.sl 3 [] (some [])),.c (.sl 5 [] (some [])),.c (.sl 6 [] (some []))]),(4000,.blk 1 [.c (.v (.int .i64 y1)),.c (.v (.int .i64 y4)),.c (.v (.int .i64 y7)),.c (.v (.string s13)),.c (.v (.string s17)),.c (.v (.int .i64 j20)),.c (.v (.int .i64 j21)),.c (.v (.string j22)),.c (.sl 3 j23 none),.c (.sl 5 j24 none),.c (.v (.int .i64 j34)),.c (.v (.int .i64 j35)),.c (.v (.string j36)),.c (.sl 3 [] (some [])),.c (.sl 5 [] (some [])),.t 90000 1 (O.len z46)]),(7000,.blk 1 [.c (.v (.string s51)),.c (.v (.int .i64 j54)),.c (.v (.int .i64 j55)),.c (.v (.string j56)),.c (.sl 3 [] (some [])),.c (.sl 5 [] (some []))]),(90000,.arr 1 6 z46 none false)],2⟩))∧p18_1 False fu K0 (p18_2L False fu K0 y1 y4 y7 s13 s17 j20 j21 j22 j23 j24 j34 j35 j36 nilE nilE y39 n1) z46 z47 s51 j52 j53 j54 j55 j56 j57 j58) (fun k3 h L hL_1=>?_) (fun k3 h L hL_1=>?_) ?_
 conv=>cbv
 refine z0d hO [.ref 2] (d_p19 fu O.len hN h) ?_
 intro e Q a b
 conv=>cbv
 refine⟨by subst a hO;rfl,?_⟩
 intro r bs d
 rw [b] at d
 clear a b h
 obtain⟨y59,y60,y61,y62,y63,y64,y65,⟨rfl,rfl⟩,h⟩:=d
 conv=>cbv
 exact hL_1 _ _ ⟨y64,y65,y59,y60,y61,y62,y63,(.inl ⟨(by (conv=>lhs;cbv)<;>(subst hO;rfl)),(by (conv=>lhs;cbv)<;>(subst hO;rfl))⟩),h⟩
 conv=>cbv
 exact hL_1 _ _ ⟨y49,y50,0,0,⟨#[]⟩,nilE,nilE,(.inr ⟨rfl,rfl,(by (conv=>lhs;cbv)<;>(subst hO;rfl)),(by (conv=>lhs;cbv)<;>(subst hO;rfl))⟩),h⟩
 rintro tm m ⟨j52,j53,j54,j55,j56,j57,j58,hs,h⟩
 unfold p18_1 at h
 rcases hs with hs | hs
 obtain⟨rfl,rfl⟩:=hs
 conv=>cbv
 refine z0z hO h (fun g=>(by subst hO;exact g)) (fun h=>?_)
 conv=>cbv
 refine⟨(by subst hO;rfl),?_⟩
 refine and_h h (fun g=>(by subst hO;exact g)) (fun h=>?_)
 exact hLn1 n1 _ _ (Nat.lt_succ_self n1) ⟨j52,j53,(z46++(List.take 1 [[(CV.v (.string s51)),(CV.v (.int .i64 j54)),(CV.v (.int .i64 j55)),(CV.v (.string j56)),(CV.sl 3 j57 none),(CV.sl 5 j58 none)]])),z0c .add .i64 z47 1,(.inr ⟨(by (conv=>lhs;cbv)<;>(subst hO;rfl)),(by (conv=>lhs;cbv)<;>(subst hO;rfl))⟩),h⟩
 obtain⟨rfl,rfl,rfl,rfl⟩:=hs
 conv=>cbv
 refine z0z hO h (fun g=>(by subst hO;exact g)) (fun h=>?_)
 conv=>cbv
 refine⟨(by subst hO;rfl),?_⟩
 refine and_h h (fun g=>(by subst hO;exact g)) (fun h=>?_)
 exact hLn1 n1 _ _ (Nat.lt_succ_self n1) ⟨j52,j53,(z46++(List.take 1 [[(CV.v (.string s51)),(CV.v (.int .i64 j54)),(CV.v (.int .i64 j55)),(CV.v (.string j56)),(CV.sl 3 nilE none),(CV.sl 5 nilE none)]])),z0c .add .i64 z47 1,(.inr ⟨(by (conv=>lhs;cbv)<;>(subst hO;rfl)),(by (conv=>lhs;cbv)<;>(subst hO;rfl))⟩),h⟩
 conv=>cbv
 refine z0k hO ?_
 conv=>cbv
 rw [b]
 exact⟨y1,y4,y7,s13,s17,j20,j21,j22,j23,j24,j34,j35,j36,nilE,nilE,z46,z44,z45,⟨(by subst hO;rfl),(by subst hO;rfl)⟩,h⟩)
 obtain⟨rfl,rfl,rfl,rfl⟩:=hs
 conv=>cbv
 refine z0d hO [.ref 2] (d_p41 fu O.len hN h) ?_
 intro e Q a b
 conv=>cbv
 refine⟨by subst a hO;rfl,?_⟩
 intro r bs d
 rw [b] at d
 clear a b h
 obtain⟨y25,y26,y27,⟨rfl,rfl⟩,h⟩:=d
 conv=>cbv
 refine z0g hO tiA [0,2,3,4,43] [0,3000,4000] [] (fun tm m=>∃ (j28:Bool),((tm=frame 0 93 [(0,.p 0 0 0),(2,.p 3000 1 0),(3,.p 4000 1 0),(4,.c (.v (.int .u64 y25))),(43,.c (.v (.bool j28)))]∧m=⟨[(0,.blk 0 [.c (.sl 1 y26 none),.c (.v (.int .i64 y27))]),(3000,.blk 1 [.c (.v (.int .i64 0)),.c (.v (.int .i64 0)),.c (.v (.int .i64 0)),.c (.v (.string ⟨#[]⟩)),.c (.v (.string ⟨#[]⟩)),.c (.v (.int .i64 0)),.c (.v (.int .i64 0)),.c (.v (.string ⟨#[]⟩)),.c (.sl 3 [] (some [])),.c (.sl 5 [] (some [])),.c (.v (.int .i64 0)),.c (.v (.int .i64 0)),.c (.v (.string ⟨#[]⟩)),.c (.sl 3 [] (some [])),.c (.sl 5 [] (some [])),.c (.sl 6 [] (some []))]),(4000,.blk 1 [.c (.v (.int .i64 y1)),.c (.v (.int .i64 y4)),.c (.v (.int .i64 y7)),.c (.v (.string s13)),.c (.v (.string s17)),.c (.v (.int .i64 j20)),.c (.v (.int .i64 j21)),.c (.v (.string j22)),.c (.sl 3 [] (some [])),.c (.sl 5 [] (some [])),.c (.v (.int .i64 0)),.c (.v (.int .i64 0)),.c (.v (.string ⟨#[]⟩)),.c (.sl 3 [] (some [])),.c (.sl 5 [] (some [])),.c (.sl 6 [] (some []))])],2⟩))∧p18_7 False fu K0 y1 y4 y7 s13 s17 j20 j21 j22 nilE nilE y25 y26 y27 j28) (fun L hL_7=>?_) ?_
 conv=>cbv
 refine br_h hO h (by subst hO;rfl) (fun k8 h=>?_) (fun k8 h=>?_)
 conv=>cbv
 refine br_t hO k8 ?_
 conv=>cbv
 refine br_t hO k8 ?_
 conv=>cbv
 refine br_t hO k8 ?_
 conv=>cbv
 refine br_t hO k8 ?_
 conv=>cbv
 refine br_t hO k8 ?_
 conv=>cbv
 refine br_t hO k8 ?_
 conv=>cbv
 exact hL_7 _ _ ⟨true,⟨(by (conv=>lhs;cbv)<;>(subst hO;rfl)),(by (conv=>lhs;cbv)<;>(subst hO;rfl))⟩,h⟩
 conv=>cbv
 refine br_f hO k8 ?_
 conv=>cbv
 refine br_f hO k8 ?_
 conv=>cbv
 refine br_f hO k8 ?_
 conv=>cbv
 refine br_f hO k8 ?_
 conv=>cbv
 refine br_f hO k8 ?_
 conv=>cbv
 refine br_f hO k8 ?_
 conv=>cbv
 exact hL_7 _ _ ⟨(!((z0a .eql y25 1) == (z0a .eql y1 2))),⟨(by (conv=>lhs;cbv)<;>(subst hO;rfl)),(by (conv=>lhs;cbv)<;>(subst hO;rfl))⟩,h⟩
 rintro tm m ⟨j28,hs,h⟩
 unfold p18_7 at h
 obtain⟨rfl,rfl⟩:=hs
 conv=>cbv
 refine z0e hO tiA h (by subst hO;rfl) [0,2,3,4] [0,3000,4000] [] (fun tm m=>∃ (j29:EL) (j30:Int),((tm=frame 0 93 [(0,.p 0 0 0),(2,.p 3000 1 0),(3,.p 4000 1 0),(4,.c (.v (.int .u64 y25)))]∧m=⟨[(0,.blk 0 [.c (.sl 1 j29 none),.c (.v (.int .i64 j30))]),(3000,.blk 1 [.c (.v (.int .i64 0)),.c (.v (.int .i64 0)),.c (.v (.int .i64 0)),.c (.v (.string ⟨#[]⟩)),.c (.v (.string ⟨#[]⟩)),.c (.v (.int .i64 0)),.c (.v (.int .i64 0)),.c (.v (.string ⟨#[]⟩)),.c (.sl 3 [] (some [])),.c (.sl 5 [] (some [])),.c (.v (.int .i64 0)),.c (.v (.int .i64 0)),.c (.v (.string ⟨#[]⟩)),.c (.sl 3 [] (some [])),.c (.sl 5 [] (some [])),.c (.sl 6 [] (some []))]),(4000,.blk 1 [.c (.v (.int .i64 y1)),.c (.v (.int .i64 y4)),.c (.v (.int .i64 y7)),.c (.v (.string s13)),.c (.v (.string s17)),.c (.v (.int .i64 j20)),.c (.v (.int .i64 j21)),.c (.v (.string j22)),.c (.sl 3 [] (some [])),.c (.sl 5 [] (some [])),.c (.v (.int .i64 0)),.c (.v (.int .i64 0)),.c (.v (.string ⟨#[]⟩)),.c (.sl 3 [] (some [])),.c (.sl 5 [] (some [])),.c (.sl 6 [] (some []))])],2⟩))∧p18_6 False fu K0 y1 y4 y7 s13 s17 j20 j21 j22 nilE nilE y25 j29 j30) (fun k7 h L hL_6=>?_) (fun k7 h L hL_6=>?_) ?_
 conv=>cbv
 refine z0d hO [.ref 2,.shut] (d_p15 fu O.len hN h) ?_
 intro e Q a b
 conv=>cbv
 refine⟨by subst a hO;rfl,?_⟩
 intro r bs d
 rw [b] at d
 clear a b h
 obtain⟨y75,y76,_,⟨rfl,rfl⟩,h⟩:=d
 conv=>cbv
 exact hL_6 _ _ ⟨y75,y76,⟨(by (conv=>lhs;cbv)<;>(subst hO;rfl)),(by (conv=>lhs;cbv)<;>(subst hO;rfl))⟩,h⟩
 conv=>cbv
 exact hL_6 _ _ ⟨y26,y27,⟨(by (conv=>lhs;cbv)<;>(subst hO;rfl)),(by (conv=>lhs;cbv)<;>(subst hO;rfl))⟩,h⟩
 rintro tm m ⟨j29,j30,hs,h⟩
 unfold p18_6 at h
 obtain⟨rfl,rfl⟩:=hs
 conv=>cbv
 refine z0g hO tiA [0,2,3,54] [0,3000,4000] [] (fun tm m=>∃ (j31:Bool),((tm=frame 0 93 [(0,.p 0 0 0),(2,.p 3000 1 0),(3,.p 4000 1 0),(54,.c (.v (.bool j31)))]∧m=⟨[(0,.blk 0 [.c (.sl 1 j29 none),.c (.v (.int .i64 j30))]),(3000,.blk 1 [.c (.v (.int .i64 0)),.c (.v (.int .i64 0)),.c (.v (.int .i64 0)),.c (.v (.string ⟨#[]⟩)),.c (.v (.string ⟨#[]⟩)),.c (.v (.int .i64 0)),.c (.v (.int .i64 0)),.c (.v (.string ⟨#[]⟩)),.c (.sl 3 [] (some [])),.c (.sl 5 [] (some [])),.c (.v (.int .i64 0)),.c (.v (.int .i64 0)),.c (.v (.string ⟨#[]⟩)),.c (.sl 3 [] (some [])),.c (.sl 5 [] (some [])),.c (.sl 6 [] (some []))]),(4000,.blk 1 [.c (.v (.int .i64 y1)),.c (.v (.int .i64 y4)),.c (.v (.int .i64 y7)),.c (.v (.string s13)),.c (.v (.string s17)),.c (.v (.int .i64 j20)),.c (.v (.int .i64 j21)),.c (.v (.string j22)),.c (.sl 3 [] (some [])),.c (.sl 5 [] (some [])),.c (.v (.int .i64 0)),.c (.v (.int .i64 0)),.c (.v (.string ⟨#[]⟩)),.c (.sl 3 [] (some [])),.c (.sl 5 [] (some [])),.c (.sl 6 [] (some []))])],2⟩))∧p18_5 False fu K0 y1 y4 y7 s13 s17 j20 j21 j22 nilE nilE j29 j30 j31) (fun L hL_5=>?_) ?_
 conv=>cbv
 refine br_h hO h (by subst hO;rfl) (fun k6 h=>?_) (fun k6 h=>?_)
 conv=>cbv
 refine br_t hO k6 ?_
 conv=>cbv
 refine br_t hO k6 ?_
 conv=>cbv
 exact hL_5 _ _ ⟨(z0a .eql y25 1),⟨(by (conv=>lhs;cbv)<;>(subst hO;rfl)),(by (conv=>lhs;cbv)<;>(subst hO;rfl))⟩,h⟩
 conv=>cbv
 refine br_f hO k6 ?_
 conv=>cbv
 refine br_f hO k6 ?_
 conv=>cbv
 exact hL_5 _ _ ⟨false,⟨(by (conv=>lhs;cbv)<;>(subst hO;rfl)),(by (conv=>lhs;cbv)<;>(subst hO;rfl))⟩,h⟩
 rintro tm m ⟨j31,hs,h⟩
 unfold p18_5 at h
 obtain⟨rfl,rfl⟩:=hs
 conv=>cbv
 refine z0e hO tiA h (by subst hO;rfl) [0,2,3] [0,3000,4000] [] (fun tm m=>∃ (j32:EL) (j33:Int) (j34:Int) (j35:Int) (j36:ByteArray) (j37:EL) (j38:EL),((tm=frame 0 93 [(0,.p 0 0 0),(2,.p 3000 1 0),(3,.p 4000 1 0)]∧m=⟨[(0,.blk 0 [.c (.sl 1 j32 none),.c (.v (.int .i64 j33))]),(3000,.blk 1 [.c (.v (.int .i64 0)),.c (.v (.int .i64 0)),.c (.v (.int .i64 0)),.c (.v (.string ⟨#[]⟩)),.c (.v (.string ⟨#[]⟩)),.c (.v (.int .i64 0)),.c (.v (.int .i64 0)),.c (.v (.string ⟨#[]⟩)),.c (.sl 3 [] (some [])),.c (.sl 5 [] (some [])),.c (.v (.int .i64 0)),.c (.v (.int .i64 0)),.c (.v (.string ⟨#[]⟩)),.c (.sl 3 [] (some [])),.c (.sl 5 [] (some [])),.c (.sl 6 [] (some []))]),(4000,.blk 1 [.c (.v (.int .i64 y1)),.c (.v (.int .i64 y4)),.c (.v (.int .i64 y7)),.c (.v (.string s13)),.c (.v (.string s17)),.c (.v (.int .i64 j20)),.c (.v (.int .i64 j21)),.c (.v (.string j22)),.c (.sl 3 [] (some [])),.c (.sl 5 [] (some [])),.c (.v (.int .i64 j34)),.c (.v (.int .i64 j35)),.c (.v (.string j36)),.c (.sl 3 j37 none),.c (.sl 5 j38 none),.c (.sl 6 [] (some []))])],2⟩)∨(j37=[]∧j38=[]∧tm=frame 0 93 [(0,.p 0 0 0),(2,.p 3000 1 0),(3,.p 4000 1 0)]∧m=⟨[(0,.blk 0 [.c (.sl 1 j32 none),.c (.v (.int .i64 j33))]),(3000,.blk 1 [.c (.v (.int .i64 0)),.c (.v (.int .i64 0)),.c (.v (.int .i64 0)),.c (.v (.string ⟨#[]⟩)),.c (.v (.string ⟨#[]⟩)),.c (.v (.int .i64 0)),.c (.v (.int .i64 0)),.c (.v (.string ⟨#[]⟩)),.c (.sl 3 [] (some [])),.c (.sl 5 [] (some [])),.c (.v (.int .i64 0)),.c (.v (.int .i64 0)),.c (.v (.string ⟨#[]⟩)),.c (.sl 3 [] (some [])),.c (.sl 5 [] (some [])),.c (.sl 6 [] (some []))]),(4000,.blk 1 [.c (.v (.int .i64 y1)),.c (.v (.int .i64 y4)),.c (.v (.int .i64 y7)),.c (.v (.string s13)),.c (.v (.string s17)),.c (.v (.int .i64 j20)),.c (.v (.int .i64 j21)),.c (.v (.string j22)),.c (.sl 3 [] (some [])),.c (.sl 5 [] (some [])),.c (.v (.int .i64 j34)),.c (.v (.int .i64 j35)),.c (.v (.string j36)),.c (.sl 3 [] (some [])),.c (.sl 5 [] (some [])),.c (.sl 6 [] (some []))])],2⟩))∧p18_4 False fu K0 y1 y4 y7 s13 s17 j20 j21 j22 nilE nilE j32 j33 j34 j35 j36 j37 j38) (fun k5 h L hL_4=>?_) (fun k5 h L hL_4=>?_) ?_
 conv=>cbv
 refine z0d hO [.ref 2] (d_p19 fu O.len hN h) ?_
 intro e Q a b
 conv=>cbv
 refine⟨by subst a hO;rfl,?_⟩
 intro r bs d
 rw [b] at d
 clear a b h
 obtain⟨y68,y69,y70,y71,y72,y73,y74,⟨rfl,rfl⟩,h⟩:=d
 conv=>cbv
 exact hL_4 _ _ ⟨y73,y74,y68,y69,y70,y71,y72,(.inl ⟨(by (conv=>lhs;cbv)<;>(subst hO;rfl)),(by (conv=>lhs;cbv)<;>(subst hO;rfl))⟩),h⟩
 conv=>cbv
 exact hL_4 _ _ ⟨j29,j30,0,0,⟨#[]⟩,nilE,nilE,(.inr ⟨rfl,rfl,(by (conv=>lhs;cbv)<;>(subst hO;rfl)),(by (conv=>lhs;cbv)<;>(subst hO;rfl))⟩),h⟩
 rintro tm m ⟨j32,j33,j34,j35,j36,j37,j38,hs,h⟩
 unfold p18_4 at h
 rcases hs with hs | hs
 obtain⟨rfl,rfl⟩:=hs
 conv=>cbv
 refine z0d hO [.ref 2] (d_p16 fu O.len hN h) ?_
 intro e Q a b
 conv=>cbv
 refine⟨by subst a hO;rfl,?_⟩
 intro r bs d
 rw [b] at d
 clear a b h
 obtain⟨y39,y40,y41,⟨rfl,rfl⟩,h⟩:=d
 conv=>cbv
 refine z0e hO tiA h (by subst hO;rfl) [0,2,3,5] [0,3000,4000] [] (fun tm m=>∃ (j42:EL) (j43:Int),((tm=frame 0 93 [(0,.p 0 0 0),(2,.p 3000 1 0),(3,.p 4000 1 0),(5,.c (.v (.int .i64 y39)))]∧m=⟨[(0,.blk 0 [.c (.sl 1 j42 none),.c (.v (.int .i64 j43))]),(3000,.blk 1 [.c (.v (.int .i64 0)),.c (.v (.int .i64 0)),.c (.v (.int .i64 0)),.c (.v (.string ⟨#[]⟩)),.c (.v (.string ⟨#[]⟩)),.c (.v (.int .i64 0)),.c (.v (.int .i64 0)),.c (.v (.string ⟨#[]⟩)),.c (.sl 3 [] (some [])),.c (.sl 5 [] (some [])),.c (.v (.int .i64 0)),.c (.v (.int .i64 0)),.c (.v (.string ⟨#[]⟩)),.c (.sl 3 [] (some [])),.c (.sl 5 [] (some [])),.c (.sl 6 [] (some []))]),(4000,.blk 1 [.c (.v (.int .i64 y1)),.c (.v (.int .i64 y4)),.c (.v (.int .i64 y7)),.c (.v (.string s13)),.c (.v (.string s17)),.c (.v (.int .i64 j20)),.c (.v (.int .i64 j21)),.c (.v (.string j22)),.c (.sl 3 [] (some [])),.c (.sl 5 [] (some [])),.c (.v (.int .i64 j34)),.c (.v (.int .i64 j35)),.c (.v (.string j36)),.c (.sl 3 j37 none),.c (.sl 5 j38 none),.c (.sl 6 [] (some []))])],2⟩))∧p18_3 False fu K0 y1 y4 y7 s13 s17 j20 j21 j22 nilE nilE j34 j35 j36 j37 j38 y39 j42 j43) (fun k4 h L hL_3=>?_) (fun k4 h L hL_3=>?_) ?_
 conv=>cbv
 refine z0d hO [.ref 2,.shut] (d_p15 fu O.len hN h) ?_
 intro e Q a b
 conv=>cbv
 refine⟨by subst a hO;rfl,?_⟩
 intro r bs d
 rw [b] at d
 clear a b h
 obtain⟨y66,y67,_,⟨rfl,rfl⟩,h⟩:=d
 conv=>cbv
 exact hL_3 _ _ ⟨y66,y67,⟨(by (conv=>lhs;cbv)<;>(subst hO;rfl)),(by (conv=>lhs;cbv)<;>(subst hO;rfl))⟩,h⟩
 conv=>cbv
 exact hL_3 _ _ ⟨y40,y41,⟨(by (conv=>lhs;cbv)<;>(subst hO;rfl)),(by (conv=>lhs;cbv)<;>(subst hO;rfl))⟩,h⟩
 rintro tm m ⟨j42,j43,hs,h⟩
 unfold p18_3 at h
 obtain⟨rfl,rfl⟩:=hs
 conv=>cbv
 refine z0r hO tiA [0,2,3,64,65] [0,3000,4000,90000] [] (fun (n:Nat) tm m=>∃ (z44:EL) (z45:Int) (z46:EL) (z47:Int),((z46=[]∧tm=frame 0 93 [(0,.p 0 0 0),(2,.p 3000 1 0),(3,.p 4000 1 0),(64,.c (.v (.int .i64 y39))),(65,.c (.v (.int .i64 z47)))]∧m=⟨[(0,.blk 0 [.c (.sl 1 z44 none),.c (.v (.int .i64 z45))]),(3000,.blk 1 [.c (.v (.int .i64 0)),.c (.v (.int .i64 0)),.c (.v (.int .i64 0)),.c (.v (.string ⟨#[]⟩)),.c (.v (.string ⟨#[]⟩)),.c (.v (.int .i64 0)),.c (.v (.int .i64 0)),.c (.v (.string ⟨#[]⟩)),.c (.sl 3 [] (some [])),.c (.sl 5 [] (some [])),.c (.v (.int .i64 0)),.c (.v (.int .i64 0)),.c (.v (.string ⟨#[]⟩)),.c (.sl 3 [] (some [])),.c (.sl 5 [] (some [])),.c (.sl 6 [] (some []))]),(4000,.blk 1 [.c (.v (.int .i64 y1)),.c (.v (.int .i64 y4)),.c (.v (.int .i64 y7)),.c (.v (.string s13)),.c (.v (.string s17)),.c (.v (.int .i64 j20)),.c (.v (.int .i64 j21)),.c (.v (.string j22)),.c (.sl 3 [] (some [])),.c (.sl 5 [] (some [])),.c (.v (.int .i64 j34)),.c (.v (.int .i64 j35)),.c (.v (.string j36)),.c (.sl 3 j37 none),.c (.sl 5 j38 none),.c (.sl 6 [] (some []))])],2⟩)∨(tm=frame 0 93 [(0,.p 0 0 0),(2,.p 3000 1 0),(3,.p 4000 1 0),(64,.c (.v (.int .i64 y39))),(65,.c (.v (.int .i64 z47)))]∧m=⟨[(0,.blk 0 [.c (.sl 1 z44 none),.c (.v (.int .i64 z45))]),(3000,.blk 1 [.c (.v (.int .i64 0)),.c (.v (.int .i64 0)),.c (.v (.int .i64 0)),.c (.v (.string ⟨#[]⟩)),.c (.v (.string ⟨#[]⟩)),.c (.v (.int .i64 0)),.c (.v (.int .i64 0)),.c (.v (.string ⟨#[]⟩)),.c (.sl 3 [] (some [])),.c (.sl 5 [] (some [])),.c (.v (.int .i64 0)),.c (.v (.int .i64 0)),.c (.v (.string ⟨#[]⟩)),.c (.sl 3 [] (some [])),.c (.sl 5 [] (some [])),.c (.sl 6 [] (some []))]),(4000,.blk 1 [.c (.v (.int .i64 y1)),.c (.v (.int .i64 y4)),.c (.v (.int .i64 y7)),.c (.v (.string s13)),.c (.v (.string s17)),.c (.v (.int .i64 j20)),.c (.v (.int .i64 j21)),.c (.v (.string j22)),.c (.sl 3 [] (some [])),.c (.sl 5 [] (some [])),.c (.v (.int .i64 j34)),.c (.v (.int .i64 j35)),.c (.v (.string j36)),.c (.sl 3 j37 none),.c (.sl 5 j38 none),.t 90000 1 (O.len z46)]),(90000,.arr 1 6 z46 none false)],2⟩))∧p18_2L False fu K0 y1 y4 y7 s13 s17 j20 j21 j22 nilE nilE j34 j35 j36 j37 j38 y39 n z44 z45 z46 z47) (fun n=>n) fu ⟨j42,j43,nilE,0,(.inl ⟨rfl,(by (conv=>lhs;cbv)<;>(subst hO;rfl)),(by (conv=>lhs;cbv)<;>(subst hO;rfl))⟩),h⟩ ?_
 rintro n1 tm m L ⟨z44,z45,z46,z47,hs,h⟩ hLn1
 (cases n1 with
 | zero=>rw [p18_2L] at h;exact h.elim
 | succ n1 =>
 rw [p18_2L] at h
 unfold p18_2 at h
 rcases hs with hs | hs
 obtain⟨rfl,rfl,rfl⟩:=hs
 conv=>cbv
 refine br_h hO h (by subst hO;rfl) (fun k1 h=>?_) (fun k1 h=>?_)
 conv=>cbv
 refine z0b hO ?_
 conv=>cbv
 refine br_h hO h (by subst hO;rfl) (fun k2 h=>?_) (fun k2 h=>?_)
 conv=>cbv
 rw [b]
 exact⟨y1,y4,y7,s13,s17,j20,j21,j22,nilE,nilE,j34,j35,j36,j37,j38,nilE,z44,z45,⟨(by subst hO;rfl),(by subst hO;rfl)⟩,h⟩
 conv=>cbv
 refine z0b hO ?_
 conv=>cbv
 refine z0d hO [.ref 2,.shut] (d_p20 fu O.len hN h) ?_
 intro e Q a b
 conv=>cbv
 refine⟨by subst a hO;rfl,?_⟩
 intro r bs d
 rw [b] at d
 clear a b h
 obtain⟨y48,y49,y50,_,⟨rfl,rfl⟩,h⟩:=d
 conv=>cbv
 refine tob_h hO h (by subst hO;rfl) (fun s51 h=>?_)
 conv=>cbv
 refine z0e hO tiA h (by subst hO;rfl) [0,2,3,6,64,65] [0,3000,4000,7000] [] (fun tm m=>∃ (j52:EL) (j53:Int) (j54:Int) (j55:Int) (j56:ByteArray) (j57:EL) (j58:EL),((tm=frame 0 93 [(0,.p 0 0 0),(2,.p 3000 1 0),(3,.p 4000 1 0),(6,.p 7000 1 0),(64,.c (.v (.int .i64 y39))),(65,.c (.v (.int .i64 z47)))]∧m=⟨[(0,.blk 0 [.c (.sl 1 j52 none),.c (.v (.int .i64 j53))]),(3000,.blk 1 [.c (.v (.int .i64 0)),.c (.v (.int .i64 0)),.c (.v (.int .i64 0)),.c (.v (.string ⟨#[]⟩)),.c (.v (.string ⟨#[]⟩)),.c (.v (.int .i64 0)),.c (.v (.int .i64 0)),.c (.v (.string ⟨#[]⟩)),.c (.sl 3 [] (some [])),.c (.sl 5 [] (some [])),.c (.v (.int .i64 0)),.c (.v (.int .i64 0)),.c (.v (.string ⟨#[]⟩)),.c (.sl 3 [] (some [])),.c (.sl 5 [] (some [])),.c (.sl 6 [] (some []))]),(4000,.blk 1 [.c (.v (.int .i64 y1)),.c (.v (.int .i64 y4)),.c (.v (.int .i64 y7)),.c (.v (.string s13)),.c (.v (.string s17)),.c (.v (.int .i64 j20)),.c (.v (.int .i64 j21)),.c (.v (.string j22)),.c (.sl 3 [] (some [])),.c (.sl 5 [] (some [])),.c (.v (.int .i64 j34)),.c (.v (.int .i64 j35)),.c (.v (.string j36)),.c (.sl 3 j37 none),.c (.sl 5 j38 none),.c (.sl 6 [] (some []))]),(7000,.blk 1 [.c (.v (.string s51)),.c (.v (.int .i64 j54)),.c (.v (.int .i64 j55)),.c (.v (.string j56)),.c (.sl 3 j57 none),.c (.sl 5 j58 none)])],2⟩)∨(j57=[]∧j58=[]∧tm=frame 0 93 [(0,.p 0 0 0),(2,.p 3000 1 0),(3,.p 4000 1 0),(6,.p 7000 1 0),(64,.c (.v (.int .i64 y39))),(65,.c (.v (.int .i64 z47)))]∧m=⟨[(0,.blk 0 [.c (.sl 1 j52 none),.c (.v (.int .i64 j53))]),(3000,.blk 1 [.c (.v (.int .i64 0)),.c (.v (.int .i64 0)),.c (.v (.int .i64 0)),.c (.v (.string ⟨#[]⟩)),.c (.v (.string ⟨#[]⟩)),.c (.v (.int .i64 0)),.c (.v (.int .i64 0)),.c (.v (.string ⟨#[]⟩)),.c (.sl 3 [] (some [])),.c (.sl 5 [] (some [])),.c (.v (.int .i64 0)),.c (.v (.int .i64 0)),.c (.v (.string ⟨#[]⟩)),.c (.sl 3 [] (some [])),.c (.sl 5 [] (some [])),.c (.sl 6 [] (some []))]),(4000,.blk 1 [.c (.v (.int .i64 y1)),.c (.v (.int .i64 y4)),.c (.v (.int .i64 y7)),.c (.v (.string s13)),.c (.v (.string s17)),.c (.v (.int .i64 j20)),.c (.v (.int .i64 j21)),.c (.v (.string j22)),.c (.sl 3 [] (some [])),.c (.sl 5 [] (some [])),.c (.v (.int .i64 j34)),.c (.v (.int .i64 j35)),.c (.v (.string j36)),.c (.sl 3 j37 none),.c (.sl 5 j38 none),.c (.sl 6 [] (some []))]),(7000,.blk 1 [.c (.v (.string s51)),.c (.v (.int .i64 j54)),.c (.v (.int .i64 j55)),.c (.v (.string j56)),.c (.sl 3 [] (some [])),.c (.sl 5 [] (some []))])],2⟩))∧p18_1 False fu K0 (p18_2L False fu K0 y1 y4 y7 s13 s17 j20 j21 j22 nilE nilE j34 j35 j36 j37 j38 y39 n1) nilE z47 s51 j52 j53 j54 j55 j56 j57 j58) (fun k3 h L hL_1=>?_) (fun k3 h L hL_1=>?_) ?_
 conv=>cbv
 refine z0d hO [.ref 2] (d_p19 fu O.len hN h) ?_
 intro e Q a b
 conv=>cbv
 refine⟨by subst a hO;rfl,?_⟩
 intro r bs d
 rw [b] at d
 clear a b h
 obtain⟨y59,y60,y61,y62,y63,y64,y65,⟨rfl,rfl⟩,h⟩:=d
 conv=>cbv
 exact hL_1 _ _ ⟨y64,y65,y59,y60,y61,y62,y63,(.inl ⟨(by (conv=>lhs;cbv)<;>(subst hO;rfl)),(by (conv=>lhs;cbv)<;>(subst hO;rfl))⟩),h⟩
 conv=>cbv
 exact hL_1 _ _ ⟨y49,y50,0,0,⟨#[]⟩,nilE,nilE,(.inr ⟨rfl,rfl,(by (conv=>lhs;cbv)<;>(subst hO;rfl)),(by (conv=>lhs;cbv)<;>(subst hO;rfl))⟩),h⟩
 rintro tm m ⟨j52,j53,j54,j55,j56,j57,j58,hs,h⟩
 unfold p18_1 at h
 rcases hs with hs | hs
 obtain⟨rfl,rfl⟩:=hs
 conv=>cbv
 refine z0z hO h (fun g=>(by subst hO;exact g)) (fun h=>?_)
 conv=>cbv
 refine and_h h (fun g=>(by subst hO;exact g)) (fun h=>?_)
 refine z2i hO (by subst hO;exact List.cons_ne_nil _ _) ?_
 conv=>cbv
 exact hLn1 n1 _ _ (Nat.lt_succ_self n1) ⟨j52,j53,(nilE++(List.take 1 [[(CV.v (.string s51)),(CV.v (.int .i64 j54)),(CV.v (.int .i64 j55)),(CV.v (.string j56)),(CV.sl 3 j57 none),(CV.sl 5 j58 none)]])),z0c .add .i64 z47 1,(.inr ⟨(by (conv=>lhs;cbv)<;>(subst hO;rfl)),(by (conv=>lhs;cbv)<;>(subst hO;rfl))⟩),h⟩
 obtain⟨rfl,rfl,rfl,rfl⟩:=hs
 conv=>cbv
 refine z0z hO h (fun g=>(by subst hO;exact g)) (fun h=>?_)
 conv=>cbv
 refine and_h h (fun g=>(by subst hO;exact g)) (fun h=>?_)
 refine z2i hO (by subst hO;exact List.cons_ne_nil _ _) ?_
 conv=>cbv
 exact hLn1 n1 _ _ (Nat.lt_succ_self n1) ⟨j52,j53,(nilE++(List.take 1 [[(CV.v (.string s51)),(CV.v (.int .i64 j54)),(CV.v (.int .i64 j55)),(CV.v (.string j56)),(CV.sl 3 nilE none),(CV.sl 5 nilE none)]])),z0c .add .i64 z47 1,(.inr ⟨(by (conv=>lhs;cbv)<;>(subst hO;rfl)),(by (conv=>lhs;cbv)<;>(subst hO;rfl))⟩),h⟩
 conv=>cbv
 rw [b]
 exact⟨y1,y4,y7,s13,s17,j20,j21,j22,nilE,nilE,j34,j35,j36,j37,j38,nilE,z44,z45,⟨(by subst hO;rfl),(by subst hO;rfl)⟩,h⟩
 obtain⟨rfl,rfl⟩:=hs
 conv=>cbv
 refine br_h hO h (by subst hO;rfl) (fun k1 h=>?_) (fun k1 h=>?_)
 conv=>cbv
 refine z0b hO ?_
 conv=>cbv
 refine br_h hO h (by subst hO;rfl) (fun k2 h=>?_) (fun k2 h=>?_)
 conv=>cbv
 refine z0k hO ?_
 conv=>cbv
 rw [b]
 exact⟨y1,y4,y7,s13,s17,j20,j21,j22,nilE,nilE,j34,j35,j36,j37,j38,z46,z44,z45,⟨(by subst hO;rfl),(by subst hO;rfl)⟩,h⟩
 conv=>cbv
 refine z0b hO ?_
 conv=>cbv
 refine z0d hO [.ref 2,.shut] (d_p20 fu O.len hN h) ?_
 intro e Q a b
 conv=>cbv
 refine⟨by subst a hO;rfl,?_⟩
 intro r bs d
 rw [b] at d
 clear a b h
 obtain⟨y48,y49,y50,_,⟨rfl,rfl⟩,h⟩:=d
 conv=>cbv
 refine tob_h hO h (by subst hO;rfl) (fun s51 h=>?_)
 conv=>cbv
 refine z0e hO tiA h (by subst hO;rfl) [0,2,3,6,64,65] [0,3000,4000,7000,90000] [] (fun tm m=>∃ (j52:EL) (j53:Int) (j54:Int) (j55:Int) (j56:ByteArray) (j57:EL) (j58:EL),((tm=frame 0 93 [(0,.p 0 0 0),(2,.p 3000 1 0),(3,.p 4000 1 0),(6,.p 7000 1 0),(64,.c (.v (.int .i64 y39))),(65,.c (.v (.int .i64 z47)))]∧m=⟨[(0,.blk 0 [.c (.sl 1 j52 none),.c (.v (.int .i64 j53))]),(3000,.blk 1 [.c (.v (.int .i64 0)),.c (.v (.int .i64 0)),.c (.v (.int .i64 0)),.c (.v (.string ⟨#[]⟩)),.c (.v (.string ⟨#[]⟩)),.c (.v (.int .i64 0)),.c (.v (.int .i64 0)),.c (.v (.string ⟨#[]⟩)),.c (.sl 3 [] (some [])),.c (.sl 5 [] (some [])),.c (.v (.int .i64 0)),.c (.v (.int .i64 0)),.c (.v (.string ⟨#[]⟩)),.c (.sl 3 [] (some [])),.c (.sl 5 [] (some [])),.c (.sl 6 [] (some []))]),(4000,.blk 1 [.c (.v (.int .i64 y1)),.c (.v (.int .i64 y4)),.c (.v (.int .i64 y7)),.c (.v (.string s13)),.c (.v (.string s17)),.c (.v (.int .i64 j20)),.c (.v (.int .i64 j21)),.c (.v (.string j22)),.c (.sl 3 [] (some [])),.c (.sl 5 [] (some [])),.c (.v (.int .i64 j34)),.c (.v (.int .i64 j35)),.c (.v (.string j36)),.c (.sl 3 j37 none),.c (.sl 5 j38 none),.t 90000 1 (O.len z46)]),(7000,.blk 1 [.c (.v (.string s51)),.c (.v (.int .i64 j54)),.c (.v (.int .i64 j55)),.c (.v (.string j56)),.c (.sl 3 j57 none),.c (.sl 5 j58 none)]),(90000,.arr 1 6 z46 none false)],2⟩)∨(j57=[]∧j58=[]∧tm=frame 0 93 [(0,.p 0 0 0),(2,.p 3000 1 0),(3,.p 4000 1 0),(6,.p 7000 1 0),(64,.c (.v (.int .i64 y39))),(65,.c (.v (.int .i64 z47)))]∧m=⟨[(0,.blk 0 [.c (.sl 1 j52 none),.c (.v (.int .i64 j53))]),(3000,.blk 1 [.c (.v (.int .i64 0)),.c (.v (.int .i64 0)),.c (.v (.int .i64 0)),.c (.v (.string ⟨#[]⟩)),.c (.v (.string ⟨#[]⟩)),.c (.v (.int .i64 0)),.c (.v (.int .i64 0)),.c (.v (.string ⟨#[]⟩)),.c (.sl 3 [] (some [])),.c (.sl 5 [] (some [])),.c (.v (.int .i64 0)),.c (.v (.int .i64 0)),.c (.v (.string ⟨#[]⟩)),.c (.sl 3 [] (some [])),.c (.sl 5 [] (some [])),.c (.sl 6 [] (some []))]),(4000,.blk 1 [.c (.v (.int .i64 y1)),.c (.v (.int .i64 y4)),.c (.v (.int .i64 y7)),.c (.v (.string s13)),.c (.v (.string s17)),.c (.v (.int .i64 j20)),.c (.v (.int .i64 j21)),.c (.v (.string j22)),.c (.sl 3 [] (some [])),.c (.sl 5 [] (some [])),.c (.v (.int .i64 j34)),.c (.v (.int .i64 j35)),.c (.v (.string j36)),.c (.sl 3 j37 none),.c (.sl 5 j38 none),.t 90000 1 (O.len z46)]),(7000,.blk 1 [.c (.v (.string s51)),.c (.v (.int .i64 j54)),.c (.v (.int .i64 j55)),.c (.v (.string j56)),.c (.sl 3 [] (some [])),.c (.sl 5 [] (some []))]),(90000,.arr 1 6 z46 none false)],2⟩))∧p18_1 False fu K0 (p18_2L False fu K0 y1 y4 y7 s13 s17 j20 j21 j22 nilE nilE j34 j35 j36 j37 j38 y39 n1) z46 z47 s51 j52 j53 j54 j55 j56 j57 j58) (fun k3 h L hL_1=>?_) (fun k3 h L hL_1=>?_) ?_
 conv=>cbv
 refine z0d hO [.ref 2] (d_p19 fu O.len hN h) ?_
 intro e Q a b
 conv=>cbv
 refine⟨by subst a hO;rfl,?_⟩
 intro r bs d
 rw [b] at d
 clear a b h
 obtain⟨y59,y60,y61,y62,y63,y64,y65,⟨rfl,rfl⟩,h⟩:=d
 conv=>cbv
 exact hL_1 _ _ ⟨y64,y65,y59,y60,y61,y62,y63,(.inl ⟨(by (conv=>lhs;cbv)<;>(subst hO;rfl)),(by (conv=>lhs;cbv)<;>(subst hO;rfl))⟩),h⟩
 conv=>cbv
 exact hL_1 _ _ ⟨y49,y50,0,0,⟨#[]⟩,nilE,nilE,(.inr ⟨rfl,rfl,(by (conv=>lhs;cbv)<;>(subst hO;rfl)),(by (conv=>lhs;cbv)<;>(subst hO;rfl))⟩),h⟩
 rintro tm m ⟨j52,j53,j54,j55,j56,j57,j58,hs,h⟩
 unfold p18_1 at h
 rcases hs with hs | hs
 obtain⟨rfl,rfl⟩:=hs
 conv=>cbv
 refine z0z hO h (fun g=>(by subst hO;exact g)) (fun h=>?_)
 conv=>cbv
 refine⟨(by subst hO;rfl),?_⟩
 refine and_h h (fun g=>(by subst hO;exact g)) (fun h=>?_)
 exact hLn1 n1 _ _ (Nat.lt_succ_self n1) ⟨j52,j53,(z46++(List.take 1 [[(CV.v (.string s51)),(CV.v (.int .i64 j54)),(CV.v (.int .i64 j55)),(CV.v (.string j56)),(CV.sl 3 j57 none),(CV.sl 5 j58 none)]])),z0c .add .i64 z47 1,(.inr ⟨(by (conv=>lhs;cbv)<;>(subst hO;rfl)),(by (conv=>lhs;cbv)<;>(subst hO;rfl))⟩),h⟩
 obtain⟨rfl,rfl,rfl,rfl⟩:=hs
 conv=>cbv
 refine z0z hO h (fun g=>(by subst hO;exact g)) (fun h=>?_)
 conv=>cbv
 refine⟨(by subst hO;rfl),?_⟩
 refine and_h h (fun g=>(by subst hO;exact g)) (fun h=>?_)
 exact hLn1 n1 _ _ (Nat.lt_succ_self n1) ⟨j52,j53,(z46++(List.take 1 [[(CV.v (.string s51)),(CV.v (.int .i64 j54)),(CV.v (.int .i64 j55)),(CV.v (.string j56)),(CV.sl 3 nilE none),(CV.sl 5 nilE none)]])),z0c .add .i64 z47 1,(.inr ⟨(by (conv=>lhs;cbv)<;>(subst hO;rfl)),(by (conv=>lhs;cbv)<;>(subst hO;rfl))⟩),h⟩
 conv=>cbv
 refine z0k hO ?_
 conv=>cbv
 rw [b]
 exact⟨y1,y4,y7,s13,s17,j20,j21,j22,nilE,nilE,j34,j35,j36,j37,j38,z46,z44,z45,⟨(by subst hO;rfl),(by subst hO;rfl)⟩,h⟩)
 obtain⟨rfl,rfl,rfl,rfl⟩:=hs
 conv=>cbv
 refine z0d hO [.ref 2] (d_p16 fu O.len hN h) ?_
 intro e Q a b
 conv=>cbv
 refine⟨by subst a hO;rfl,?_⟩
 intro r bs d
 rw [b] at d
 clear a b h
 obtain⟨y39,y40,y41,⟨rfl,rfl⟩,h⟩:=d
 conv=>cbv
 refine z0e hO tiA h (by subst hO;rfl) [0,2,3,5] [0,3000,4000] [] (fun tm m=>∃ (j42:EL) (j43:Int),((tm=frame 0 93 [(0,.p 0 0 0),(2,.p 3000 1 0),(3,.p 4000 1 0),(5,.c (.v (.int .i64 y39)))]∧m=⟨[(0,.blk 0 [.c (.sl 1 j42 none),.c (.v (.int .i64 j43))]),(3000,.blk 1 [.c (.v (.int .i64 0)),.c (.v (.int .i64 0)),.c (.v (.int .i64 0)),.c (.v (.string ⟨#[]⟩)),.c (.v (.string ⟨#[]⟩)),.c (.v (.int .i64 0)),.c (.v (.int .i64 0)),.c (.v (.string ⟨#[]⟩)),.c (.sl 3 [] (some [])),.c (.sl 5 [] (some [])),.c (.v (.int .i64 0)),.c (.v (.int .i64 0)),.c (.v (.string ⟨#[]⟩)),.c (.sl 3 [] (some [])),.c (.sl 5 [] (some [])),.c (.sl 6 [] (some []))]),(4000,.blk 1 [.c (.v (.int .i64 y1)),.c (.v (.int .i64 y4)),.c (.v (.int .i64 y7)),.c (.v (.string s13)),.c (.v (.string s17)),.c (.v (.int .i64 j20)),.c (.v (.int .i64 j21)),.c (.v (.string j22)),.c (.sl 3 [] (some [])),.c (.sl 5 [] (some [])),.c (.v (.int .i64 j34)),.c (.v (.int .i64 j35)),.c (.v (.string j36)),.c (.sl 3 [] (some [])),.c (.sl 5 [] (some [])),.c (.sl 6 [] (some []))])],2⟩))∧p18_3 False fu K0 y1 y4 y7 s13 s17 j20 j21 j22 nilE nilE j34 j35 j36 nilE nilE y39 j42 j43) (fun k4 h L hL_3=>?_) (fun k4 h L hL_3=>?_) ?_
 conv=>cbv
 refine z0d hO [.ref 2,.shut] (d_p15 fu O.len hN h) ?_
 intro e Q a b
 conv=>cbv
 refine⟨by subst a hO;rfl,?_⟩
 intro r bs d
 rw [b] at d
 clear a b h
 obtain⟨y66,y67,_,⟨rfl,rfl⟩,h⟩:=d
 conv=>cbv
 exact hL_3 _ _ ⟨y66,y67,⟨(by (conv=>lhs;cbv)<;>(subst hO;rfl)),(by (conv=>lhs;cbv)<;>(subst hO;rfl))⟩,h⟩
 conv=>cbv
 exact hL_3 _ _ ⟨y40,y41,⟨(by (conv=>lhs;cbv)<;>(subst hO;rfl)),(by (conv=>lhs;cbv)<;>(subst hO;rfl))⟩,h⟩
 rintro tm m ⟨j42,j43,hs,h⟩
 unfold p18_3 at h
 obtain⟨rfl,rfl⟩:=hs
 conv=>cbv
 refine z0r hO tiA [0,2,3,64,65] [0,3000,4000,90000] [] (fun (n:Nat) tm m=>∃ (z44:EL) (z45:Int) (z46:EL) (z47:Int),((z46=[]∧tm=frame 0 93 [(0,.p 0 0 0),(2,.p 3000 1 0),(3,.p 4000 1 0),(64,.c (.v (.int .i64 y39))),(65,.c (.v (.int .i64 z47)))]∧m=⟨[(0,.blk 0 [.c (.sl 1 z44 none),.c (.v (.int .i64 z45))]),(3000,.blk 1 [.c (.v (.int .i64 0)),.c (.v (.int .i64 0)),.c (.v (.int .i64 0)),.c (.v (.string ⟨#[]⟩)),.c (.v (.string ⟨#[]⟩)),.c (.v (.int .i64 0)),.c (.v (.int .i64 0)),.c (.v (.string ⟨#[]⟩)),.c (.sl 3 [] (some [])),.c (.sl 5 [] (some [])),.c (.v (.int .i64 0)),.c (.v (.int .i64 0)),.c (.v (.string ⟨#[]⟩)),.c (.sl 3 [] (some [])),.c (.sl 5 [] (some [])),.c (.sl 6 [] (some []))]),(4000,.blk 1 [.c (.v (.int .i64 y1)),.c (.v (.int .i64 y4)),.c (.v (.int .i64 y7)),.c (.v (.string s13)),.c (.v (.string s17)),.c (.v (.int .i64 j20)),.c (.v (.int .i64 j21)),.c (.v (.string j22)),.c (.sl 3 [] (some [])),.c (.sl 5 [] (some [])),.c (.v (.int .i64 j34)),.c (.v (.int .i64 j35)),.c (.v (.string j36)),.c (.sl 3 [] (some [])),.c (.sl 5 [] (some [])),.c (.sl 6 [] (some []))])],2⟩)∨(tm=frame 0 93 [(0,.p 0 0 0),(2,.p 3000 1 0),(3,.p 4000 1 0),(64,.c (.v (.int .i64 y39))),(65,.c (.v (.int .i64 z47)))]∧m=⟨[(0,.blk 0 [.c (.sl 1 z44 none),.c (.v (.int .i64 z45))]),(3000,.blk 1 [.c (.v (.int .i64 0)),.c (.v (.int .i64 0)),.c (.v (.int .i64 0)),.c (.v (.string ⟨#[]⟩)),.c (.v (.string ⟨#[]⟩)),.c (.v (.int .i64 0)),.c (.v (.int .i64 0)),.c (.v (.string ⟨#[]⟩)),.c (.sl 3 [] (some [])),.c (.sl 5 [] (some [])),.c (.v (.int .i64 0)),.c (.v (.int .i64 0)),.c (.v (.string ⟨#[]⟩)),.c (.sl 3 [] (some [])),.c (.sl 5 [] (some [])),.c (.sl 6 [] (some []))]),(4000,.blk 1 [.c (.v (.int .i64 y1)),.c (.v (.int .i64 y4)),.c (.v (.int .i64 y7)),.c (.v (.string s13)),.c (.v (.string s17)),.c (.v (.int .i64 j20)),.c (.v (.int .i64 j21)),.c (.v (.string j22)),.c (.sl 3 [] (some [])),.c (.sl 5 [] (some [])),.c (.v (.int .i64 j34)),.c (.v (.int .i64 j35)),.c (.v (.string j36)),.c (.sl 3 [] (some [])),.c (.sl 5 [] (some [])),.t 90000 1 (O.len z46)]),(90000,.arr 1 6 z46 none false)],2⟩))∧p18_2L False fu K0 y1 y4 y7 s13 s17 j20 j21 j22 nilE nilE j34 j35 j36 nilE nilE y39 n z44 z45 z46 z47) (fun n=>n) fu ⟨j42,j43,nilE,0,(.inl ⟨rfl,(by (conv=>lhs;cbv)<;>(subst hO;rfl)),(by (conv=>lhs;cbv)<;>(subst hO;rfl))⟩),h⟩ ?_
 rintro n1 tm m L ⟨z44,z45,z46,z47,hs,h⟩ hLn1
 (cases n1 with
 | zero=>rw [p18_2L] at h;exact h.elim
 | succ n1 =>
 rw [p18_2L] at h
 unfold p18_2 at h
 rcases hs with hs | hs
 obtain⟨rfl,rfl,rfl⟩:=hs
 conv=>cbv
 refine br_h hO h (by subst hO;rfl) (fun k1 h=>?_) (fun k1 h=>?_)
 conv=>cbv
 refine z0b hO ?_
 conv=>cbv
 refine br_h hO h (by subst hO;rfl) (fun k2 h=>?_) (fun k2 h=>?_)
 conv=>cbv
 rw [b]
 exact⟨y1,y4,y7,s13,s17,j20,j21,j22,nilE,nilE,j34,j35,j36,nilE,nilE,nilE,z44,z45,⟨(by subst hO;rfl),(by subst hO;rfl)⟩,h⟩
 conv=>cbv
 refine z0b hO ?_
 conv=>cbv
 refine z0d hO [.ref 2,.shut] (d_p20 fu O.len hN h) ?_
 intro e Q a b
 conv=>cbv
 refine⟨by subst a hO;rfl,?_⟩
 intro r bs d
 rw [b] at d
 clear a b h
 obtain⟨y48,y49,y50,_,⟨rfl,rfl⟩,h⟩:=d
 conv=>cbv
 refine tob_h hO h (by subst hO;rfl) (fun s51 h=>?_)
 conv=>cbv
 refine z0e hO tiA h (by subst hO;rfl) [0,2,3,6,64,65] [0,3000,4000,7000] [] (fun tm m=>∃ (j52:EL) (j53:Int) (j54:Int) (j55:Int) (j56:ByteArray) (j57:EL) (j58:EL),((tm=frame 0 93 [(0,.p 0 0 0),(2,.p 3000 1 0),(3,.p 4000 1 0),(6,.p 7000 1 0),(64,.c (.v (.int .i64 y39))),(65,.c (.v (.int .i64 z47)))]∧m=⟨[(0,.blk 0 [.c (.sl 1 j52 none),.c (.v (.int .i64 j53))]),(3000,.blk 1 [.c (.v (.int .i64 0)),.c (.v (.int .i64 0)),.c (.v (.int .i64 0)),.c (.v (.string ⟨#[]⟩)),.c (.v (.string ⟨#[]⟩)),.c (.v (.int .i64 0)),.c (.v (.int .i64 0)),.c (.v (.string ⟨#[]⟩)),.c (.sl 3 [] (some [])),.c (.sl 5 [] (some [])),.c (.v (.int .i64 0)),.c (.v (.int .i64 0)),.c (.v (.string ⟨#[]⟩)),.c (.sl 3 [] (some [])),.c (.sl 5 [] (some [])),.c (.sl 6 [] (some []))]),(4000,.blk 1 [.c (.v (.int .i64 y1)),.c (.v (.int .i64 y4)),.c (.v (.int .i64 y7)),.c (.v (.string s13)),.c (.v (.string s17)),.c (.v (.int .i64 j20)),.c (.v (.int .i64 j21)),.c (.v (.string j22)),.c (.sl 3 [] (some [])),.c (.sl 5 [] (some [])),.c (.v (.int .i64 j34)),.c (.v (.int .i64 j35)),.c (.v (.string j36)),.c (.sl 3 [] (some [])),.c (.sl 5 [] (some [])),.c (.sl 6 [] (some []))]),(7000,.blk 1 [.c (.v (.string s51)),.c (.v (.int .i64 j54)),.c (.v (.int .i64 j55)),.c (.v (.string j56)),.c (.sl 3 j57 none),.c (.sl 5 j58 none)])],2⟩)∨(j57=[]∧j58=[]∧tm=frame 0 93 [(0,.p 0 0 0),(2,.p 3000 1 0),(3,.p 4000 1 0),(6,.p 7000 1 0),(64,.c (.v (.int .i64 y39))),(65,.c (.v (.int .i64 z47)))]∧m=⟨[(0,.blk 0 [.c (.sl 1 j52 none),.c (.v (.int .i64 j53))]),(3000,.blk 1 [.c (.v (.int .i64 0)),.c (.v (.int .i64 0)),.c (.v (.int .i64 0)),.c (.v (.string ⟨#[]⟩)),.c (.v (.string ⟨#[]⟩)),.c (.v (.int .i64 0)),.c (.v (.int .i64 0)),.c (.v (.string ⟨#[]⟩)),.c (.sl 3 [] (some [])),.c (.sl 5 [] (some [])),.c (.v (.int .i64 0)),.c (.v (.int .i64 0)),.c (.v (.string ⟨#[]⟩)),.c (.sl 3 [] (some [])),.c (.sl 5 [] (some [])),.c (.sl 6 [] (some []))]),(4000,.blk 1 [.c (.v (.int .i64 y1)),.c (.v (.int .i64 y4)),.c (.v (.int .i64 y7)),.c (.v (.string s13)),.c (.v (.string s17)),.c (.v (.int .i64 j20)),.c (.v (.int .i64 j21)),.c (.v (.string j22)),.c (.sl 3 [] (some [])),.c (.sl 5 [] (some [])),.c (.v (.int .i64 j34)),.c (.v (.int .i64 j35)),.c (.v (.string j36)),.c (.sl 3 [] (some [])),.c (.sl 5 [] (some [])),.c (.sl 6 [] (some []))]),(7000,.blk 1 [.c (.v (.string s51)),.c (.v (.int .i64 j54)),.c (.v (.int .i64 j55)),.c (.v (.string j56)),.c (.sl 3 [] (some [])),.c (.sl 5 [] (some []))])],2⟩))∧p18_1 False fu K0 (p18_2L False fu K0 y1 y4 y7 s13 s17 j20 j21 j22 nilE nilE j34 j35 j36 nilE nilE y39 n1) nilE z47 s51 j52 j53 j54 j55 j56 j57 j58) (fun k3 h L hL_1=>?_) (fun k3 h L hL_1=>?_) ?_
 conv=>cbv
 refine z0d hO [.ref 2] (d_p19 fu O.len hN h) ?_
 intro e Q a b
 conv=>cbv
 refine⟨by subst a hO;rfl,?_⟩
 intro r bs d
 rw [b] at d
 clear a b h
 obtain⟨y59,y60,y61,y62,y63,y64,y65,⟨rfl,rfl⟩,h⟩:=d
 conv=>cbv
 exact hL_1 _ _ ⟨y64,y65,y59,y60,y61,y62,y63,(.inl ⟨(by (conv=>lhs;cbv)<;>(subst hO;rfl)),(by (conv=>lhs;cbv)<;>(subst hO;rfl))⟩),h⟩
 conv=>cbv
 exact hL_1 _ _ ⟨y49,y50,0,0,⟨#[]⟩,nilE,nilE,(.inr ⟨rfl,rfl,(by (conv=>lhs;cbv)<;>(subst hO;rfl)),(by (conv=>lhs;cbv)<;>(subst hO;rfl))⟩),h⟩
 rintro tm m ⟨j52,j53,j54,j55,j56,j57,j58,hs,h⟩
 unfold p18_1 at h
 rcases hs with hs | hs
 obtain⟨rfl,rfl⟩:=hs
 conv=>cbv
 refine z0z hO h (fun g=>(by subst hO;exact g)) (fun h=>?_)
 conv=>cbv
 refine and_h h (fun g=>(by subst hO;exact g)) (fun h=>?_)
 refine z2i hO (by subst hO;exact List.cons_ne_nil _ _) ?_
 conv=>cbv
 exact hLn1 n1 _ _ (Nat.lt_succ_self n1) ⟨j52,j53,(nilE++(List.take 1 [[(CV.v (.string s51)),(CV.v (.int .i64 j54)),(CV.v (.int .i64 j55)),(CV.v (.string j56)),(CV.sl 3 j57 none),(CV.sl 5 j58 none)]])),z0c .add .i64 z47 1,(.inr ⟨(by (conv=>lhs;cbv)<;>(subst hO;rfl)),(by (conv=>lhs;cbv)<;>(subst hO;rfl))⟩),h⟩
 obtain⟨rfl,rfl,rfl,rfl⟩:=hs
 conv=>cbv
 refine z0z hO h (fun g=>(by subst hO;exact g)) (fun h=>?_)
 conv=>cbv
 refine and_h h (fun g=>(by subst hO;exact g)) (fun h=>?_)
 refine z2i hO (by subst hO;exact List.cons_ne_nil _ _) ?_
 conv=>cbv
 exact hLn1 n1 _ _ (Nat.lt_succ_self n1) ⟨j52,j53,(nilE++(List.take 1 [[(CV.v (.string s51)),(CV.v (.int .i64 j54)),(CV.v (.int .i64 j55)),(CV.v (.string j56)),(CV.sl 3 nilE none),(CV.sl 5 nilE none)]])),z0c .add .i64 z47 1,(.inr ⟨(by (conv=>lhs;cbv)<;>(subst hO;rfl)),(by (conv=>lhs;cbv)<;>(subst hO;rfl))⟩),h⟩
 conv=>cbv
 rw [b]
 exact⟨y1,y4,y7,s13,s17,j20,j21,j22,nilE,nilE,j34,j35,j36,nilE,nilE,nilE,z44,z45,⟨(by subst hO;rfl),(by subst hO;rfl)⟩,h⟩
 obtain⟨rfl,rfl⟩:=hs
 conv=>cbv
 refine br_h hO h (by subst hO;rfl) (fun k1 h=>?_) (fun k1 h=>?_)
 conv=>cbv
 refine z0b hO ?_
 conv=>cbv
 refine br_h hO h (by subst hO;rfl) (fun k2 h=>?_) (fun k2 h=>?_)
 conv=>cbv
 refine z0k hO ?_
 conv=>cbv
 rw [b]
 exact⟨y1,y4,y7,s13,s17,j20,j21,j22,nilE,nilE,j34,j35,j36,nilE,nilE,z46,z44,z45,⟨(by subst hO;rfl),(by subst hO;rfl)⟩,h⟩
 conv=>cbv
 refine z0b hO ?_
 conv=>cbv
 refine z0d hO [.ref 2,.shut] (d_p20 fu O.len hN h) ?_
 intro e Q a b
 conv=>cbv
 refine⟨by subst a hO;rfl,?_⟩
 intro r bs d
 rw [b] at d
 clear a b h
 obtain⟨y48,y49,y50,_,⟨rfl,rfl⟩,h⟩:=d
 conv=>cbv
 refine tob_h hO h (by subst hO;rfl) (fun s51 h=>?_)
 conv=>cbv
 refine z0e hO tiA h (by subst hO;rfl) [0,2,3,6,64,65] [0,3000,4000,7000,90000] [] (fun tm m=>∃ (j52:EL) (j53:Int) (j54:Int) (j55:Int) (j56:ByteArray) (j57:EL) (j58:EL),((tm=frame 0 93 [(0,.p 0 0 0),(2,.p 3000 1 0),(3,.p 4000 1 0),(6,.p 7000 1 0),(64,.c (.v (.int .i64 y39))),(65,.c (.v (.int .i64 z47)))]∧m=⟨[(0,.blk 0 [.c (.sl 1 j52 none),.c (.v (.int .i64 j53))]),(3000,.blk 1 [.c (.v (.int .i64 0)),.c (.v (.int .i64 0)),.c (.v (.int .i64 0)),.c (.v (.string ⟨#[]⟩)),.c (.v (.string ⟨#[]⟩)),.c (.v (.int .i64 0)),.c (.v (.int .i64 0)),.c (.v (.string ⟨#[]⟩)),.c (.sl 3 [] (some [])),.c (.sl 5 [] (some [])),.c (.v (.int .i64 0)),.c (.v (.int .i64 0)),.c (.v (.string ⟨#[]⟩)),.c (.sl 3 [] (some [])),.c (.sl 5 [] (some [])),.c (.sl 6 [] (some []))]),(4000,.blk 1 [.c (.v (.int .i64 y1)),.c (.v (.int .i64 y4)),.c (.v (.int .i64 y7)),.c (.v (.string s13)),.c (.v (.string s17)),.c (.v (.int .i64 j20)),.c (.v (.int .i64 j21)),.c (.v (.string j22)),.c (.sl 3 [] (some [])),.c (.sl 5 [] (some [])),.c (.v (.int .i64 j34)),.c (.v (.int .i64 j35)),.c (.v (.string j36)),.c (.sl 3 [] (some [])),.c (.sl 5 [] (some [])),.t 90000 1 (O.len z46)]),(7000,.blk 1 [.c (.v (.string s51)),.c (.v (.int .i64 j54)),.c (.v (.int .i64 j55)),.c (.v (.string j56)),.c (.sl 3 j57 none),.c (.sl 5 j58 none)]),(90000,.arr 1 6 z46 none false)],2⟩)∨(j57=[]∧j58=[]∧tm=frame 0 93 [(0,.p 0 0 0),(2,.p 3000 1 0),(3,.p 4000 1 0),(6,.p 7000 1 0),(64,.c (.v (.int .i64 y39))),(65,.c (.v (.int .i64 z47)))]∧m=⟨[(0,.blk 0 [.c (.sl 1 j52 none),.c (.v (.int .i64 j53))]),(3000,.blk 1 [.c (.v (.int .i64 0)),.c (.v (.int .i64 0)),.c (.v (.int .i64 0)),.c (.v (.string ⟨#[]⟩)),.c (.v (.string ⟨#[]⟩)),.c (.v (.int .i64 0)),.c (.v (.int .i64 0)),.c (.v (.string ⟨#[]⟩)),.c (.sl 3 [] (some [])),.c (.sl 5 [] (some [])),.c (.v (.int .i64 0)),.c (.v (.int .i64 0)),.c (.v (.string ⟨#[]⟩)),.c (.sl 3 [] (some [])),.c (.sl 5 [] (some [])),.c (.sl 6 [] (some []))]),(4000,.blk 1 [.c (.v (.int .i64 y1)),.c (.v (.int .i64 y4)),.c (.v (.int .i64 y7)),.c (.v (.string s13)),.c (.v (.string s17)),.c (.v (.int .i64 j20)),.c (.v (.int .i64 j21)),.c (.v (.string j22)),.c (.sl 3 [] (some [])),.c (.sl 5 [] (some [])),.c (.v (.int .i64 j34)),.c (.v (.int .i64 j35)),.c (.v (.string j36)),.c (.sl 3 [] (some [])),.c (.sl 5 [] (some [])),.t 90000 1 (O.len z46)]),(7000,.blk 1 [.c (.v (.string s51)),.c (.v (.int .i64 j54)),.c (.v (.int .i64 j55)),.c (.v (.string j56)),.c (.sl 3 [] (some [])),.c (.sl 5 [] (some []))]),(90000,.arr 1 6 z46 none false)],2⟩))∧p18_1 False fu K0 (p18_2L False fu K0 y1 y4 y7 s13 s17 j20 j21 j22 nilE nilE j34 j35 j36 nilE nilE y39 n1) z46 z47 s51 j52 j53 j54 j55 j56 j57 j58) (fun k3 h L hL_1=>?_) (fun k3 h L hL_1=>?_) ?_
 conv=>cbv
 refine z0d hO [.ref 2] (d_p19 fu O.len hN h) ?_
 intro e Q a b
 conv=>cbv
 refine⟨by subst a hO;rfl,?_⟩
 intro r bs d
 rw [b] at d
 clear a b h
 obtain⟨y59,y60,y61,y62,y63,y64,y65,⟨rfl,rfl⟩,h⟩:=d
 conv=>cbv
 exact hL_1 _ _ ⟨y64,y65,y59,y60,y61,y62,y63,(.inl ⟨(by (conv=>lhs;cbv)<;>(subst hO;rfl)),(by (conv=>lhs;cbv)<;>(subst hO;rfl))⟩),h⟩
 conv=>cbv
 exact hL_1 _ _ ⟨y49,y50,0,0,⟨#[]⟩,nilE,nilE,(.inr ⟨rfl,rfl,(by (conv=>lhs;cbv)<;>(subst hO;rfl)),(by (conv=>lhs;cbv)<;>(subst hO;rfl))⟩),h⟩
 rintro tm m ⟨j52,j53,j54,j55,j56,j57,j58,hs,h⟩
 unfold p18_1 at h
 rcases hs with hs | hs
 obtain⟨rfl,rfl⟩:=hs
 conv=>cbv
 refine z0z hO h (fun g=>(by subst hO;exact g)) (fun h=>?_)
 conv=>cbv
 refine⟨(by subst hO;rfl),?_⟩
 refine and_h h (fun g=>(by subst hO;exact g)) (fun h=>?_)
 exact hLn1 n1 _ _ (Nat.lt_succ_self n1) ⟨j52,j53,(z46++(List.take 1 [[(CV.v (.string s51)),(CV.v (.int .i64 j54)),(CV.v (.int .i64 j55)),(CV.v (.string j56)),(CV.sl 3 j57 none),(CV.sl 5 j58 none)]])),z0c .add .i64 z47 1,(.inr ⟨(by (conv=>lhs;cbv)<;>(subst hO;rfl)),(by (conv=>lhs;cbv)<;>(subst hO;rfl))⟩),h⟩
 obtain⟨rfl,rfl,rfl,rfl⟩:=hs
 conv=>cbv
 refine z0z hO h (fun g=>(by subst hO;exact g)) (fun h=>?_)
 conv=>cbv
 refine⟨(by subst hO;rfl),?_⟩
 refine and_h h (fun g=>(by subst hO;exact g)) (fun h=>?_)
 exact hLn1 n1 _ _ (Nat.lt_succ_self n1) ⟨j52,j53,(z46++(List.take 1 [[(CV.v (.string s51)),(CV.v (.int .i64 j54)),(CV.v (.int .i64 j55)),(CV.v (.string j56)),(CV.sl 3 nilE none),(CV.sl 5 nilE none)]])),z0c .add .i64 z47 1,(.inr ⟨(by (conv=>lhs;cbv)<;>(subst hO;rfl)),(by (conv=>lhs;cbv)<;>(subst hO;rfl))⟩),h⟩
 conv=>cbv
 refine z0k hO ?_
 conv=>cbv
 rw [b]
 exact⟨y1,y4,y7,s13,s17,j20,j21,j22,nilE,nilE,j34,j35,j36,nilE,nilE,z46,z44,z45,⟨(by subst hO;rfl),(by subst hO;rfl)⟩,h⟩)
end Go.Proofs.Ytioiigabeoaneaa
