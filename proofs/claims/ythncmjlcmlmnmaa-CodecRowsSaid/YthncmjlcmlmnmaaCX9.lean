/- A part of the proof. Conditions: none. -/
import Derived.Test.YthncmjlcmlmnmaaCX4
import Derived.Test.YthncmjlcmlmnmaaCX6
import Derived.Test.YthncmjlcmlmnmaaCX8
import Derived.Test.YthncmjlcmlmnmaaCX5
import Derived.Test.YthncmjlcmlmnmaaCX7
namespace Go.Proofs.Ythncmjlcmlmnmaa
open Go V
set_option maxRecDepth 100000
set_option maxHeartbeats 4000000
def D_p131 (fu:Nat):Prop:=∀ {K0:Int→Int→ByteArray→EL→EL→Prop} (L:EL→Nat) (_:L=List.length) {x0 x1:Int} {x2:ByteArray} {x3 x4:EL} {x5 x6:Int} (_:p131 False fu K0 x0 x1 x2 x3 x4 x5 x6),Den Try.prog G0 131 [.agg [.c (.v (.int .i64 x0)),.c (.v (.int .i64 x1)),.c (.v (.string x2)),.c (.sl 3 x3 none),.c (.sl 5 x4 none)],.c (.v (.int .i64 x5)),.c (.v (.int .i64 x6))] (fun r bs=>(∃ (y0 y1:Int) (y2:ByteArray) (y3 y4:EL) (o0 o1 o2:OV),(r=.agg [.c (.v (.int .i64 y0)),.c (.v (.int .i64 y1)),.c (.v (.string y2)),.c (.sl 3 y3 none),.c (.sl 5 y4 none)]∧bs=[o0,o1,o2])∧K0 y0 y1 y2 y3 y4))
theorem b_p131 (fu:Nat)(ih_p131:D_p131 fu){K0:Int→Int→ByteArray→EL→EL→Prop}(L:EL→Nat)(hN:L=List.length){x0 x1:Int}{x2:ByteArray}{x3 x4:EL}{x5 x6:Int}(h:p131_b False fu (p131 False fu) K0 x0 x1 x2 x3 x4 x5 x6):Den Try.prog G0 131 [.agg [.c (.v (.int .i64 x0)),.c (.v (.int .i64 x1)),.c (.v (.string x2)),.c (.sl 3 x3 none),.c (.sl 5 x4 none)],.c (.v (.int .i64 x5)),.c (.v (.int .i64 x6))] (fun r bs=>(∃ (y0 y1:Int) (y2:ByteArray) (y3 y4:EL) (o0 o1 o2:OV),(r=.agg [.c (.v (.int .i64 y0)),.c (.v (.int .i64 y1)),.c (.v (.string y2)),.c (.sl 3 y3 none),.c (.sl 5 y4 none)]∧bs=[o0,o1,o2])∧K0 y0 y1 y2 y3 y4)):=by
 obtain⟨O,hO⟩:∃ O,O=std 0 T G0 (Den Try.prog G0):=⟨_,rfl⟩
 have hLO:L=O.len:=by rw [hN,hO];rfl
 subst hLO
 refine den_h hO tiA mixed tabOk (fn:=Try.f131) (sh:=true) (by kernel_rfl) rfl rfl rfl rfl ?_
 intro Q b
 unfold p131_b at h
 conv=>cbv
 refine z0c hO [.shut] (d_p135 fu O.len hN h) ?_
 intro e Q a b
 conv=>cbv
 refine⟨by subst a hO;rfl,?_⟩
 intro r bs d
 rw [b] at d
 clear a b h
 rcases d with d | d
 obtain⟨y1,y2,y3,y4,y5,_,⟨rfl,rfl,rfl,rfl⟩,h⟩:=d
 conv=>cbv
 refine z0u hO tiA [1,2,3,6,7,19] [4000,7000,8000] [] (fun tm m=>∃ (j6:Bool),((tm=frame 0 51 [(1,.c (.v (.int .i64 x5))),(2,.c (.v (.int .i64 x6))),(3,.p 4000 0 0),(6,.p 7000 0 0),(7,.p 8000 0 0),(19,.c (.v (.bool j6)))]∧m=⟨[(4000,.blk 0 [.c (.v (.int .i64 x0)),.c (.v (.int .i64 x1)),.c (.v (.string x2)),.c (.sl 3 x3 none),.c (.sl 5 x4 none)]),(7000,.blk 0 [.c (.v (.int .i64 0)),.c (.v (.int .i64 0)),.c (.v (.string ⟨#[]⟩)),.c (.sl 3 [] (some [])),.c (.sl 5 [] (some []))]),(8000,.blk 0 [.c (.v (.int .i64 y1)),.c (.v (.int .i64 y2)),.c (.v (.string y3)),.c (.sl 3 [] (some [])),.c (.sl 5 [] (some []))])],1⟩))∧p131_3 False fu (p131 False fu) K0 x0 x1 x4 x5 x6 y1 y2 y3 nilE nilE j6) (fun L hL_3=>?_) ?_
 conv=>cbv
 refine br_h hO h (by subst hO;rfl) (fun k3 h=>?_) (fun k3 h=>?_)
 conv=>cbv
 refine br_t hO k3 ?_
 conv=>cbv
 refine br_t hO k3 ?_
 conv=>cbv
 refine br_t hO k3 ?_
 conv=>cbv
 refine br_t hO k3 ?_
 conv=>cbv
 exact hL_3 _ _ ⟨(z0a .geq x1 x6),⟨(by (conv=>lhs;cbv)<;>(subst hO;rfl)),(by (conv=>lhs;cbv)<;>(subst hO;rfl))⟩,h⟩
 conv=>cbv
 refine br_f hO k3 ?_
 conv=>cbv
 refine br_f hO k3 ?_
 conv=>cbv
 refine br_f hO k3 ?_
 conv=>cbv
 refine br_f hO k3 ?_
 conv=>cbv
 exact hL_3 _ _ ⟨false,⟨(by (conv=>lhs;cbv)<;>(subst hO;rfl)),(by (conv=>lhs;cbv)<;>(subst hO;rfl))⟩,h⟩
 rintro tm m ⟨j6,hs,h⟩
 unfold p131_3 at h
 obtain⟨rfl,rfl⟩:=hs
 conv=>cbv
 refine z0f hO tiA h (by subst hO;rfl) [1,2,3,6,7] [4000,7000,8000] [] (fun tm m=>∃ (j7:Int),((tm=frame 0 51 [(1,.c (.v (.int .i64 x5))),(2,.c (.v (.int .i64 x6))),(3,.p 4000 0 0),(6,.p 7000 0 0),(7,.p 8000 0 0)]∧m=⟨[(4000,.blk 0 [.c (.v (.int .i64 x0)),.c (.v (.int .i64 x1)),.c (.v (.string x2)),.c (.sl 3 x3 none),.c (.sl 5 x4 none)]),(7000,.blk 0 [.c (.v (.int .i64 0)),.c (.v (.int .i64 0)),.c (.v (.string ⟨#[]⟩)),.c (.sl 3 [] (some [])),.c (.sl 5 [] (some []))]),(8000,.blk 0 [.c (.v (.int .i64 y1)),.c (.v (.int .i64 j7)),.c (.v (.string y3)),.c (.sl 3 [] (some [])),.c (.sl 5 [] (some []))])],1⟩))∧p131_2 False fu (p131 False fu) K0 x0 x4 x5 x6 y1 y3 nilE nilE j7) (fun k2 h L hL_2=>?_) (fun k2 h L hL_2=>?_) ?_
 conv=>cbv
 exact hL_2 _ _ ⟨z0d .add .i64 x1 x5,⟨(by (conv=>lhs;cbv)<;>(subst hO;rfl)),(by (conv=>lhs;cbv)<;>(subst hO;rfl))⟩,h⟩
 conv=>cbv
 exact hL_2 _ _ ⟨y2,⟨(by (conv=>lhs;cbv)<;>(subst hO;rfl)),(by (conv=>lhs;cbv)<;>(subst hO;rfl))⟩,h⟩
 rintro tm m ⟨j7,hs,h⟩
 unfold p131_2 at h
 obtain⟨rfl,rfl⟩:=hs
 conv=>cbv
 refine z0r hO tiA [1,2,3,6,7,8] [4000,7000,8000,49000] [] (fun (n:Nat) tm m=>∃ (z8:EL) (z9:Int),((z8=[]∧tm=frame 0 51 [(1,.c (.v (.int .i64 x5))),(2,.c (.v (.int .i64 x6))),(3,.p 4000 0 0),(6,.p 7000 0 0),(7,.p 8000 0 0),(8,.c (.v (.int .i64 z9)))]∧m=⟨[(4000,.blk 0 [.c (.v (.int .i64 x0)),.c (.v (.int .i64 x1)),.c (.v (.string x2)),.c (.sl 3 x3 none),.c (.sl 5 x4 none)]),(7000,.blk 0 [.c (.v (.int .i64 0)),.c (.v (.int .i64 0)),.c (.v (.string ⟨#[]⟩)),.c (.sl 3 [] (some [])),.c (.sl 5 [] (some []))]),(8000,.blk 0 [.c (.v (.int .i64 y1)),.c (.v (.int .i64 j7)),.c (.v (.string y3)),.c (.sl 3 [] (some [])),.c (.sl 5 [] (some []))])],1⟩)∨(tm=frame 0 51 [(1,.c (.v (.int .i64 x5))),(2,.c (.v (.int .i64 x6))),(3,.p 4000 0 0),(6,.p 7000 0 0),(7,.p 8000 0 0),(8,.c (.v (.int .i64 z9)))]∧m=⟨[(4000,.blk 0 [.c (.v (.int .i64 x0)),.c (.v (.int .i64 x1)),.c (.v (.string x2)),.c (.sl 3 x3 none),.c (.sl 5 x4 none)]),(7000,.blk 0 [.c (.v (.int .i64 0)),.c (.v (.int .i64 0)),.c (.v (.string ⟨#[]⟩)),.c (.sl 3 [] (some [])),.c (.sl 5 [] (some []))]),(8000,.blk 0 [.c (.v (.int .i64 y1)),.c (.v (.int .i64 j7)),.c (.v (.string y3)),.c (.sl 3 [] (some [])),.t 49000 0 (O.len z8)]),(49000,.arr 0 5 z8 none false)],1⟩))∧p131_1L False fu (p131 False fu) K0 x0 x4 x5 x6 y1 y3 nilE j7 n z8 z9) (fun n=>n) fu ⟨nilE,0,(.inl ⟨rfl,(by (conv=>lhs;cbv)<;>(subst hO;rfl)),(by (conv=>lhs;cbv)<;>(subst hO;rfl))⟩),h⟩ ?_
 rintro n1 tm m L ⟨z8,z9,hs,h⟩ hLn1
 (cases n1 with
 | zero=>rw [p131_1L] at h;exact h.elim
 | succ n1 =>
 rw [p131_1L] at h
 unfold p131_1 at h
 rcases hs with hs | hs
 obtain⟨rfl,rfl,rfl⟩:=hs
 conv=>cbv
 refine br_h hO h (by subst hO;rfl) (fun k1 h=>?_) (fun k1 h=>?_)
 conv=>cbv
 refine z0b hO ?_
 conv=>cbv
 refine z0h hO tiA [[],[],[],[],[],[]] [(0,true,false),(1,true,false),(2,true,false),(3,true,false),(4,true,false),(5,true,false),(6,true,false),(7,true,false),(8,true,false),(9,true,false),(10,true,false),(11,true,false),(12,false,false),(13,true,false),(14,false,false),(15,false,false),(16,false,true),(17,true,true),(18,false,true)] (by kernel_rfl) ?_
 conv=>cbv
 refine and_h h (fun g=>(by subst hO;exact g)) (fun h=>?_)
 refine and_h h (fun g=>(by subst hO;exact g)) (fun h=>?_)
 obtain⟨c10,c11,c12,c13,c14,hr,h⟩:=z0e h
 refine z0m hO _ (by subst hO;exact hr) ?_
 clear hr
 conv=>cbv
 refine z0c hO [.shut,.shut] (d_p142 fu O.len hN h) ?_
 intro e Q a b
 conv=>cbv
 refine⟨by subst a hO;rfl,?_⟩
 intro r bs d
 rw [b] at d
 clear a b h
 obtain⟨y15,_,_,⟨rfl,rfl⟩,h⟩:=d
 conv=>cbv
 refine agr hO rfl rfl ?_
 refine z0c hO [.shut,.shut,.shut] (ih_p131 O.len hN h) ?_
 intro e Q a b
 conv=>cbv
 refine⟨by subst a hO;rfl,?_⟩
 intro r bs d
 rw [b] at d
 clear a b h
 obtain⟨y16,y17,y18,y19,y20,_,_,_,⟨rfl,rfl⟩,h⟩:=d
 conv=>cbv
 refine agr hO rfl rfl ?_
 refine agr hO rfl rfl ?_
 refine z0t hO h (fun g=>(by subst hO;exact g)) (fun h=>?_)
 conv=>cbv
 refine and_h h (fun g=>(by subst hO;exact g)) (fun h=>?_)
 refine z4g hO (by subst hO;exact List.cons_ne_nil _ _) ?_
 conv=>cbv
 refine z0b hO ?_
 conv=>cbv
 exact hLn1 n1 _ _ (Nat.lt_succ_self n1) ⟨(nilE++(List.take 1 [[(CV.v (.int .i64 y16)),(CV.v (.int .i64 y17)),(CV.v (.string y18)),(CV.sl 3 y19 none),(CV.sl 5 y20 none)]])),z0d .add .i64 z9 1,(.inr ⟨(by (conv=>lhs;cbv)<;>(subst hO;rfl)),(by (conv=>lhs;cbv)<;>(subst hO;rfl))⟩),h⟩
 conv=>cbv
 rw [b]
 exact⟨y1,j7,y3,nilE,nilE,_,_,_,⟨(by subst hO;rfl),(by subst hO;rfl)⟩,h⟩
 obtain⟨rfl,rfl⟩:=hs
 conv=>cbv
 refine br_h hO h (by subst hO;rfl) (fun k1 h=>?_) (fun k1 h=>?_)
 conv=>cbv
 refine z0b hO ?_
 conv=>cbv
 refine z0h hO tiA [[],[],[],[],[],[]] [(0,true,false),(1,true,false),(2,true,false),(3,true,false),(4,true,false),(5,true,false),(6,true,false),(7,true,false),(8,true,false),(9,true,false),(10,true,false),(11,true,false),(12,false,false),(13,true,false),(14,false,false),(15,false,false),(16,false,true),(17,true,true),(18,false,true)] (by kernel_rfl) ?_
 conv=>cbv
 refine and_h h (fun g=>(by subst hO;exact g)) (fun h=>?_)
 refine and_h h (fun g=>(by subst hO;exact g)) (fun h=>?_)
 obtain⟨c10,c11,c12,c13,c14,hr,h⟩:=z0e h
 refine z0m hO _ (by subst hO;exact hr) ?_
 clear hr
 conv=>cbv
 refine z0c hO [.shut,.shut] (d_p142 fu O.len hN h) ?_
 intro e Q a b
 conv=>cbv
 refine⟨by subst a hO;rfl,?_⟩
 intro r bs d
 rw [b] at d
 clear a b h
 obtain⟨y15,_,_,⟨rfl,rfl⟩,h⟩:=d
 conv=>cbv
 refine agr hO rfl rfl ?_
 refine z0c hO [.shut,.shut,.shut] (ih_p131 O.len hN h) ?_
 intro e Q a b
 conv=>cbv
 refine⟨by subst a hO;rfl,?_⟩
 intro r bs d
 rw [b] at d
 clear a b h
 obtain⟨y16,y17,y18,y19,y20,_,_,_,⟨rfl,rfl⟩,h⟩:=d
 conv=>cbv
 refine agr hO rfl rfl ?_
 refine agr hO rfl rfl ?_
 refine z0t hO h (fun g=>(by subst hO;exact g)) (fun h=>?_)
 conv=>cbv
 refine⟨(by subst hO;rfl),?_⟩
 refine and_h h (fun g=>(by subst hO;exact g)) (fun h=>?_)
 refine z0b hO ?_
 conv=>cbv
 exact hLn1 n1 _ _ (Nat.lt_succ_self n1) ⟨(z8++(List.take 1 [[(CV.v (.int .i64 y16)),(CV.v (.int .i64 y17)),(CV.v (.string y18)),(CV.sl 3 y19 none),(CV.sl 5 y20 none)]])),z0d .add .i64 z9 1,(.inr ⟨(by (conv=>lhs;cbv)<;>(subst hO;rfl)),(by (conv=>lhs;cbv)<;>(subst hO;rfl))⟩),h⟩
 conv=>cbv
 refine z0o hO ?_
 conv=>cbv
 rw [b]
 exact⟨y1,j7,y3,nilE,z8,_,_,_,⟨(by subst hO;rfl),(by subst hO;rfl)⟩,h⟩)
 obtain⟨y1,y2,y3,y4,y5,_,⟨rfl,rfl,rfl⟩,h⟩:=d
 conv=>cbv
 refine z0u hO tiA [1,2,3,6,7,19] [4000,7000,8000,11000] [] (fun tm m=>∃ (j6:Bool),((tm=frame 0 51 [(1,.c (.v (.int .i64 x5))),(2,.c (.v (.int .i64 x6))),(3,.p 4000 0 0),(6,.p 7000 0 0),(7,.p 8000 0 0),(19,.c (.v (.bool j6)))]∧m=⟨[(4000,.blk 0 [.c (.v (.int .i64 x0)),.c (.v (.int .i64 x1)),.c (.v (.string x2)),.c (.sl 3 x3 none),.c (.sl 5 x4 none)]),(7000,.blk 0 [.c (.v (.int .i64 0)),.c (.v (.int .i64 0)),.c (.v (.string ⟨#[]⟩)),.c (.sl 3 [] (some [])),.c (.sl 5 [] (some []))]),(8000,.blk 0 [.c (.v (.int .i64 y1)),.c (.v (.int .i64 y2)),.c (.v (.string y3)),.t 11000 0 (O.len y4),.c (.sl 5 [] (some []))]),(11000,.arr 0 3 y4 none false)],1⟩))∧p131_3 False fu (p131 False fu) K0 x0 x1 x4 x5 x6 y1 y2 y3 y4 nilE j6) (fun L hL_3=>?_) ?_
 conv=>cbv
 refine br_h hO h (by subst hO;rfl) (fun k3 h=>?_) (fun k3 h=>?_)
 conv=>cbv
 refine br_t hO k3 ?_
 conv=>cbv
 refine br_t hO k3 ?_
 conv=>cbv
 refine br_t hO k3 ?_
 conv=>cbv
 refine br_t hO k3 ?_
 conv=>cbv
 exact hL_3 _ _ ⟨(z0a .geq x1 x6),⟨(by (conv=>lhs;cbv)<;>(subst hO;rfl)),(by (conv=>lhs;cbv)<;>(subst hO;rfl))⟩,h⟩
 conv=>cbv
 refine br_f hO k3 ?_
 conv=>cbv
 refine br_f hO k3 ?_
 conv=>cbv
 refine br_f hO k3 ?_
 conv=>cbv
 refine br_f hO k3 ?_
 conv=>cbv
 exact hL_3 _ _ ⟨false,⟨(by (conv=>lhs;cbv)<;>(subst hO;rfl)),(by (conv=>lhs;cbv)<;>(subst hO;rfl))⟩,h⟩
 rintro tm m ⟨j6,hs,h⟩
 unfold p131_3 at h
 obtain⟨rfl,rfl⟩:=hs
 conv=>cbv
 refine z0f hO tiA h (by subst hO;rfl) [1,2,3,6,7] [4000,7000,8000,11000] [] (fun tm m=>∃ (j7:Int),((tm=frame 0 51 [(1,.c (.v (.int .i64 x5))),(2,.c (.v (.int .i64 x6))),(3,.p 4000 0 0),(6,.p 7000 0 0),(7,.p 8000 0 0)]∧m=⟨[(4000,.blk 0 [.c (.v (.int .i64 x0)),.c (.v (.int .i64 x1)),.c (.v (.string x2)),.c (.sl 3 x3 none),.c (.sl 5 x4 none)]),(7000,.blk 0 [.c (.v (.int .i64 0)),.c (.v (.int .i64 0)),.c (.v (.string ⟨#[]⟩)),.c (.sl 3 [] (some [])),.c (.sl 5 [] (some []))]),(8000,.blk 0 [.c (.v (.int .i64 y1)),.c (.v (.int .i64 j7)),.c (.v (.string y3)),.t 11000 0 (O.len y4),.c (.sl 5 [] (some []))]),(11000,.arr 0 3 y4 none false)],1⟩))∧p131_2 False fu (p131 False fu) K0 x0 x4 x5 x6 y1 y3 y4 nilE j7) (fun k2 h L hL_2=>?_) (fun k2 h L hL_2=>?_) ?_
 conv=>cbv
 exact hL_2 _ _ ⟨z0d .add .i64 x1 x5,⟨(by (conv=>lhs;cbv)<;>(subst hO;rfl)),(by (conv=>lhs;cbv)<;>(subst hO;rfl))⟩,h⟩
 conv=>cbv
 exact hL_2 _ _ ⟨y2,⟨(by (conv=>lhs;cbv)<;>(subst hO;rfl)),(by (conv=>lhs;cbv)<;>(subst hO;rfl))⟩,h⟩
 rintro tm m ⟨j7,hs,h⟩
 unfold p131_2 at h
 obtain⟨rfl,rfl⟩:=hs
 conv=>cbv
 refine z0r hO tiA [1,2,3,6,7,8] [4000,7000,8000,11000,49000] [] (fun (n:Nat) tm m=>∃ (z8:EL) (z9:Int),((z8=[]∧tm=frame 0 51 [(1,.c (.v (.int .i64 x5))),(2,.c (.v (.int .i64 x6))),(3,.p 4000 0 0),(6,.p 7000 0 0),(7,.p 8000 0 0),(8,.c (.v (.int .i64 z9)))]∧m=⟨[(4000,.blk 0 [.c (.v (.int .i64 x0)),.c (.v (.int .i64 x1)),.c (.v (.string x2)),.c (.sl 3 x3 none),.c (.sl 5 x4 none)]),(7000,.blk 0 [.c (.v (.int .i64 0)),.c (.v (.int .i64 0)),.c (.v (.string ⟨#[]⟩)),.c (.sl 3 [] (some [])),.c (.sl 5 [] (some []))]),(8000,.blk 0 [.c (.v (.int .i64 y1)),.c (.v (.int .i64 j7)),.c (.v (.string y3)),.t 11000 0 (O.len y4),.c (.sl 5 [] (some []))]),(11000,.arr 0 3 y4 none false)],1⟩)∨(tm=frame 0 51 [(1,.c (.v (.int .i64 x5))),(2,.c (.v (.int .i64 x6))),(3,.p 4000 0 0),(6,.p 7000 0 0),(7,.p 8000 0 0),(8,.c (.v (.int .i64 z9)))]∧m=⟨[(4000,.blk 0 [.c (.v (.int .i64 x0)),.c (.v (.int .i64 x1)),.c (.v (.string x2)),.c (.sl 3 x3 none),.c (.sl 5 x4 none)]),(7000,.blk 0 [.c (.v (.int .i64 0)),.c (.v (.int .i64 0)),.c (.v (.string ⟨#[]⟩)),.c (.sl 3 [] (some [])),.c (.sl 5 [] (some []))]),(8000,.blk 0 [.c (.v (.int .i64 y1)),.c (.v (.int .i64 j7)),.c (.v (.string y3)),.t 11000 0 (O.len y4),.t 49000 0 (O.len z8)]),(11000,.arr 0 3 y4 none false),(49000,.arr 0 5 z8 none false)],1⟩))∧p131_1L False fu (p131 False fu) K0 x0 x4 x5 x6 y1 y3 y4 j7 n z8 z9) (fun n=>n) fu ⟨nilE,0,(.inl ⟨rfl,(by (conv=>lhs;cbv)<;>(subst hO;rfl)),(by (conv=>lhs;cbv)<;>(subst hO;rfl))⟩),h⟩ ?_
 rintro n1 tm m L ⟨z8,z9,hs,h⟩ hLn1
 (cases n1 with
 | zero=>rw [p131_1L] at h;exact h.elim
 | succ n1 =>
 rw [p131_1L] at h
 unfold p131_1 at h
 rcases hs with hs | hs
 obtain⟨rfl,rfl,rfl⟩:=hs
 conv=>cbv
 refine br_h hO h (by subst hO;rfl) (fun k1 h=>?_) (fun k1 h=>?_)
 conv=>cbv
 refine z0b hO ?_
 conv=>cbv
 refine z0h hO tiA [[],[],[],[],[],[]] [(0,true,false),(1,true,false),(2,true,false),(3,true,false),(4,true,false),(5,true,false),(6,true,false),(7,true,false),(8,true,false),(9,true,false),(10,true,false),(11,true,false),(12,false,false),(13,true,false),(14,false,false),(15,false,false),(16,false,true),(17,true,true),(18,false,true)] (by kernel_rfl) ?_
 conv=>cbv
 refine and_h h (fun g=>(by subst hO;exact g)) (fun h=>?_)
 refine and_h h (fun g=>(by subst hO;exact g)) (fun h=>?_)
 obtain⟨c10,c11,c12,c13,c14,hr,h⟩:=z0e h
 refine z0m hO _ (by subst hO;exact hr) ?_
 clear hr
 conv=>cbv
 refine z0c hO [.shut,.shut] (d_p142 fu O.len hN h) ?_
 intro e Q a b
 conv=>cbv
 refine⟨by subst a hO;rfl,?_⟩
 intro r bs d
 rw [b] at d
 clear a b h
 obtain⟨y15,_,_,⟨rfl,rfl⟩,h⟩:=d
 conv=>cbv
 refine agr hO rfl rfl ?_
 refine z0c hO [.shut,.shut,.shut] (ih_p131 O.len hN h) ?_
 intro e Q a b
 conv=>cbv
 refine⟨by subst a hO;rfl,?_⟩
 intro r bs d
 rw [b] at d
 clear a b h
 obtain⟨y16,y17,y18,y19,y20,_,_,_,⟨rfl,rfl⟩,h⟩:=d
 conv=>cbv
 refine agr hO rfl rfl ?_
 refine agr hO rfl rfl ?_
 refine z0t hO h (fun g=>(by subst hO;exact g)) (fun h=>?_)
 conv=>cbv
 refine and_h h (fun g=>(by subst hO;exact g)) (fun h=>?_)
 refine z4g hO (by subst hO;exact List.cons_ne_nil _ _) ?_
 conv=>cbv
 refine z0b hO ?_
 conv=>cbv
 exact hLn1 n1 _ _ (Nat.lt_succ_self n1) ⟨(nilE++(List.take 1 [[(CV.v (.int .i64 y16)),(CV.v (.int .i64 y17)),(CV.v (.string y18)),(CV.sl 3 y19 none),(CV.sl 5 y20 none)]])),z0d .add .i64 z9 1,(.inr ⟨(by (conv=>lhs;cbv)<;>(subst hO;rfl)),(by (conv=>lhs;cbv)<;>(subst hO;rfl))⟩),h⟩
 conv=>cbv
 refine z0o hO ?_
 conv=>cbv
 rw [b]
 exact⟨y1,j7,y3,y4,nilE,_,_,_,⟨(by subst hO;rfl),(by subst hO;rfl)⟩,h⟩
 obtain⟨rfl,rfl⟩:=hs
 conv=>cbv
 refine br_h hO h (by subst hO;rfl) (fun k1 h=>?_) (fun k1 h=>?_)
 conv=>cbv
 refine z0b hO ?_
 conv=>cbv
 refine z0h hO tiA [[],[],[],[],[],[]] [(0,true,false),(1,true,false),(2,true,false),(3,true,false),(4,true,false),(5,true,false),(6,true,false),(7,true,false),(8,true,false),(9,true,false),(10,true,false),(11,true,false),(12,false,false),(13,true,false),(14,false,false),(15,false,false),(16,false,true),(17,true,true),(18,false,true)] (by kernel_rfl) ?_
 conv=>cbv
 refine and_h h (fun g=>(by subst hO;exact g)) (fun h=>?_)
 refine and_h h (fun g=>(by subst hO;exact g)) (fun h=>?_)
 obtain⟨c10,c11,c12,c13,c14,hr,h⟩:=z0e h
 refine z0m hO _ (by subst hO;exact hr) ?_
 clear hr
 conv=>cbv
 refine z0c hO [.shut,.shut] (d_p142 fu O.len hN h) ?_
 intro e Q a b
 conv=>cbv
 refine⟨by subst a hO;rfl,?_⟩
 intro r bs d
 rw [b] at d
 clear a b h
 obtain⟨y15,_,_,⟨rfl,rfl⟩,h⟩:=d
 conv=>cbv
 refine agr hO rfl rfl ?_
 refine z0c hO [.shut,.shut,.shut] (ih_p131 O.len hN h) ?_
 intro e Q a b
 conv=>cbv
 refine⟨by subst a hO;rfl,?_⟩
 intro r bs d
 rw [b] at d
 clear a b h
 obtain⟨y16,y17,y18,y19,y20,_,_,_,⟨rfl,rfl⟩,h⟩:=d
 conv=>cbv
 refine agr hO rfl rfl ?_
 refine agr hO rfl rfl ?_
 refine z0t hO h (fun g=>(by subst hO;exact g)) (fun h=>?_)
 conv=>cbv
 refine⟨(by subst hO;rfl),?_⟩
 refine and_h h (fun g=>(by subst hO;exact g)) (fun h=>?_)
 refine z0b hO ?_
 conv=>cbv
 exact hLn1 n1 _ _ (Nat.lt_succ_self n1) ⟨(z8++(List.take 1 [[(CV.v (.int .i64 y16)),(CV.v (.int .i64 y17)),(CV.v (.string y18)),(CV.sl 3 y19 none),(CV.sl 5 y20 none)]])),z0d .add .i64 z9 1,(.inr ⟨(by (conv=>lhs;cbv)<;>(subst hO;rfl)),(by (conv=>lhs;cbv)<;>(subst hO;rfl))⟩),h⟩
 conv=>cbv
 refine z0o hO ?_
 conv=>cbv
 refine z0o hO ?_
 conv=>cbv
 rw [b]
 exact⟨y1,j7,y3,y4,z8,_,_,_,⟨(by subst hO;rfl),(by subst hO;rfl)⟩,h⟩)
theorem dd_p131 (fu:Nat):D_p131 fu:=by
 induction fu with
 | zero=>unfold D_p131;intros;rename_i h;rw [p131] at h;exact h.elim
 | succ n ih =>
  exact (by unfold D_p131;intro K0 L hN x0 x1 x2 x3 x4 x5 x6 h;exact b_p131 n ih L hN (by rw [p131] at h;exact h))
theorem d_p131 (fu:Nat):D_p131 fu:=dd_p131 fu
theorem d_p100 (fu:Nat){K0:Int→Int→ByteArray→EL→EL→Prop}(L:EL→Nat)(hN:L=List.length){x0 x1:Int}{x2:ByteArray}{x3 x4:EL}(h:p100 False fu K0 x0 x1 x2 x3 x4):Den Try.prog G0 100 [.agg [.c (.v (.int .i64 x0)),.c (.v (.int .i64 x1)),.c (.v (.string x2)),.c (.sl 3 x3 none),.c (.sl 5 x4 none)]] (fun r bs=>(∃ (y0 y1:Int) (y2:ByteArray) (y3 y4:EL) (o0:OV),(r=.agg [.c (.v (.int .i64 y0)),.c (.v (.int .i64 y1)),.c (.v (.string y2)),.c (.sl 3 y3 none),.c (.sl 5 y4 none)]∧bs=[o0])∧K0 y0 y1 y2 y3 y4)):=by
 obtain⟨O,hO⟩:∃ O,O=std 0 T G0 (Den Try.prog G0):=⟨_,rfl⟩
 have hLO:L=O.len:=by rw [hN,hO];rfl
 subst hLO
 refine den_h hO tiA mixed tabOk (fn:=Try.f100) (sh:=true) (by kernel_rfl) rfl rfl rfl rfl ?_
 intro Q b
 unfold p100 at h
 conv=>cbv
 refine z0c hO [.shut,.shut,.shut] (d_p131 fu O.len hN h) ?_
 intro e Q a b
 conv=>cbv
 refine⟨by subst a hO;rfl,?_⟩
 intro r bs d
 rw [b] at d
 clear a b h
 obtain⟨y1,y2,y3,y4,y5,_,_,_,⟨rfl,rfl⟩,h⟩:=d
 conv=>cbv
 rw [b]
 exact⟨y1,y2,y3,y4,y5,_,⟨(by subst hO;rfl),(by subst hO;rfl)⟩,h⟩
theorem d_p48 (fu:Nat){K0:Int→Int→ByteArray→EL→EL→Prop}(L:EL→Nat)(hN:L=List.length){x0 x1:Int}{x2:ByteArray}{x3 x4:EL}{x5 x6:Int}{x7:ByteArray}{x8 x9:EL}(h:p48 False fu K0 x0 x1 x2 x3 x4 x5 x6 x7 x8 x9):Den Try.prog G0 48 [.agg [.c (.v (.int .i64 x0)),.c (.v (.int .i64 x1)),.c (.v (.string x2)),.c (.sl 3 x3 none),.c (.sl 5 x4 none)],.agg [.c (.v (.int .i64 x5)),.c (.v (.int .i64 x6)),.c (.v (.string x7)),.c (.sl 3 x8 none),.c (.sl 5 x9 none)]] (fun r bs=>(∃ (y0 y1:Int) (y2:ByteArray) (y3 y4:EL) (o0 o1:OV),(r=.agg [.c (.v (.int .i64 y0)),.c (.v (.int .i64 y1)),.c (.v (.string y2)),.c (.sl 3 y3 none),.c (.sl 5 y4 none)]∧bs=[o0,o1])∧K0 y0 y1 y2 y3 y4)):=by
 obtain⟨O,hO⟩:∃ O,O=std 0 T G0 (Den Try.prog G0):=⟨_,rfl⟩
 have hLO:L=O.len:=by rw [hN,hO];rfl
 subst hLO
 refine den_h hO tiA mixed tabOk (fn:=Try.f48) (sh:=true) (by kernel_rfl) rfl rfl rfl rfl ?_
 intro Q b
 unfold p48 at h
 conv=>cbv
 refine z0h hO tiA [[],[],[],[]] [(0,true,false),(2,true,false),(1,false,false),(3,false,true),(4,true,true),(5,false,true)] (by kernel_rfl) ?_
 conv=>cbv
 refine z0c hO [.shut] (d_p100 fu O.len hN h) ?_
 intro e Q a b
 conv=>cbv
 refine⟨by subst a hO;rfl,?_⟩
 intro r bs d
 rw [b] at d
 clear a b h
 obtain⟨y1,y2,y3,y4,y5,_,⟨rfl,rfl⟩,h⟩:=d
 conv=>cbv
 refine agr hO rfl rfl ?_
 refine z0b hO ?_
 conv=>cbv
 refine z0t hO h (fun g=>(by subst hO;exact g)) (fun h=>?_)
 conv=>cbv
 rw [b]
 exact⟨5,0,⟨#[]⟩,nilE,List.take 2 [[(CV.v (.int .i64 y1)),(CV.v (.int .i64 y2)),(CV.v (.string y3)),(CV.sl 3 y4 none),(CV.sl 5 y5 none)],[(CV.v (.int .i64 x5)),(CV.v (.int .i64 x6)),(CV.v (.string x7)),(CV.sl 3 x8 none),(CV.sl 5 x9 none)]],_,_,⟨(by subst hO;rfl),(by subst hO;rfl)⟩,h⟩
theorem d_p13 (fu:Nat){K0:Bool→Prop}(L:EL→Nat)(hN:L=List.length)(h:p13 False fu K0 ):Den Try.prog G0 13 [] (fun r bs=>(∃ (y0:Bool),(r=.c (.v (.bool y0))∧bs=[])∧K0 y0)):=by
 obtain⟨O,hO⟩:∃ O,O=std 0 T G0 (Den Try.prog G0):=⟨_,rfl⟩
 have hLO:L=O.len:=by rw [hN,hO];rfl
 subst hLO
 refine den_h hO tiA mixed tabOk (fn:=Try.f13) (sh:=true) (by kernel_rfl) rfl rfl rfl rfl ?_
 intro Q b
 unfold p13 at h
 conv=>cbv
 refine z0c hO [] (d_p50 fu O.len hN h) ?_
 intro e Q a b
 conv=>cbv
 refine⟨by subst a hO;rfl,?_⟩
 intro r bs d
 rw [b] at d
 clear a b h
 obtain⟨y1,y2,y3,⟨rfl,rfl⟩,h⟩:=d
 conv=>cbv
 refine z0c hO [.shut] (d_p49 fu O.len hN h) ?_
 intro e Q a b
 conv=>cbv
 refine⟨by subst a hO;rfl,?_⟩
 intro r bs d
 rw [b] at d
 clear a b h
 obtain⟨y4,y5,y6,y7,y8,_,⟨rfl,rfl⟩,h⟩:=d
 conv=>cbv
 refine z0c hO [.shut] (d_p51 fu O.len hN h) ?_
 intro e Q a b
 conv=>cbv
 refine⟨by subst a hO;rfl,?_⟩
 intro r bs d
 rw [b] at d
 clear a b h
 obtain⟨y9,y10,y11,y12,y13,_,⟨rfl,rfl⟩,h⟩:=d
 conv=>cbv
 refine z0c hO [.shut,.shut] (d_p48 fu O.len hN h) ?_
 intro e Q a b
 conv=>cbv
 refine⟨by subst a hO;rfl,?_⟩
 intro r bs d
 rw [b] at d
 clear a b h
 obtain⟨y14,y15,y16,y17,y18,_,_,⟨rfl,rfl⟩,h⟩:=d
 conv=>cbv
 refine z0c hO [.shut,.shut] (d_p17 fu O.len hN h) ?_
 intro e Q a b
 conv=>cbv
 refine⟨by subst a hO;rfl,?_⟩
 intro r bs d
 rw [b] at d
 clear a b h
 obtain⟨y19,_,_,⟨rfl,rfl⟩,h⟩:=d
 conv=>cbv
 refine alt_r hO ?_
 conv=>cbv
 refine z0o hO ?_
 conv=>cbv
 refine z0t hO h (fun g=>(by subst hO;exact g)) (fun h=>?_)
 conv=>cbv
 refine⟨(by subst hO;rfl),?_⟩
 refine and_h h (fun g=>(by subst hO;exact g)) (fun h=>?_)
 refine z0c hO [.shut] (d_p18 fu O.len hN h) ?_
 intro e Q a b
 conv=>cbv
 refine z0o hO ?_
 conv=>cbv
 refine⟨by subst a hO;rfl,?_⟩
 intro r bs d
 rw [b] at d
 clear a b h
 obtain⟨y20,y21,y22,y23,y24,y25,y26,_,⟨rfl,rfl⟩,h⟩:=d
 conv=>cbv
 refine z0u hO tiA [0] [] [] (fun tm m=>∃ (j27:Bool),((tm=frame 0 42 [(0,.c (.v (.bool j27)))]∧m=⟨[],1⟩))∧p13_1 False fu K0 j27) (fun L hL_1=>?_) ?_
 conv=>cbv
 refine tob_h hO h (by subst hO;rfl) (fun s28 h=>?_)
 conv=>cbv
 refine br_h hO h (by subst hO;rfl) (fun k1 h=>?_) (fun k1 h=>?_)
 conv=>cbv
 refine br_t hO k1 ?_
 conv=>cbv
 refine br_t hO k1 ?_
 conv=>cbv
 refine br_h hO h (by subst hO;rfl) (fun k2 h=>?_) (fun k2 h=>?_)
 conv=>cbv
 refine br_t hO k2 ?_
 conv=>cbv
 refine br_t hO k2 ?_
 conv=>cbv
 refine br_h hO h (by subst hO;rfl) (fun k3 h=>?_) (fun k3 h=>?_)
 conv=>cbv
 refine br_t hO k3 ?_
 conv=>cbv
 refine br_t hO k3 ?_
 conv=>cbv
 refine z0c hO [.shut,.shut] (d_p19 fu O.len hN h) ?_
 intro e Q a b
 conv=>cbv
 refine⟨by subst a hO;rfl,?_⟩
 intro r bs d
 rw [b] at d
 clear a b h
 obtain⟨y29,_,_,⟨rfl,rfl⟩,h⟩:=d
 conv=>cbv
 refine br_t hO k3 ?_
 conv=>cbv
 refine br_h hO h (by subst hO;rfl) (fun k4 h=>?_) (fun k4 h=>?_)
 conv=>cbv
 refine br_t hO k4 ?_
 conv=>cbv
 refine z0c hO [.shut,.shut] (d_p26 fu O.len hN h) ?_
 intro e Q a b
 conv=>cbv
 refine⟨by subst a hO;rfl,?_⟩
 intro r bs d
 rw [b] at d
 clear a b h
 obtain⟨y30,_,_,⟨rfl,rfl⟩,h⟩:=d
 conv=>cbv
 refine br_t hO k4 ?_
 conv=>cbv
 refine br_t hO k4 ?_
 conv=>cbv
 refine br_t hO k4 ?_
 conv=>cbv
 exact hL_1 _ _ ⟨(z0a .eql ((y30.length:Nat):Int) 1),⟨(by (conv=>lhs;cbv)<;>(subst hO;rfl)),(by (conv=>lhs;cbv)<;>(subst hO;rfl))⟩,h⟩
 conv=>cbv
 refine br_f hO k4 ?_
 conv=>cbv
 refine br_f hO k4 ?_
 conv=>cbv
 refine br_f hO k4 ?_
 conv=>cbv
 refine br_f hO k4 ?_
 conv=>cbv
 exact hL_1 _ _ ⟨false,⟨(by (conv=>lhs;cbv)<;>(subst hO;rfl)),(by (conv=>lhs;cbv)<;>(subst hO;rfl))⟩,h⟩
 conv=>cbv
 refine br_f hO k3 ?_
 conv=>cbv
 refine br_f hO k3 ?_
 conv=>cbv
 refine br_f hO k3 ?_
 conv=>cbv
 refine br_f hO rfl ?_
 conv=>cbv
 refine br_f hO rfl ?_
 conv=>cbv
 refine br_f hO rfl ?_
 conv=>cbv
 refine br_f hO rfl ?_
 conv=>cbv
 refine br_f hO rfl ?_
 conv=>cbv
 exact hL_1 _ _ ⟨false,⟨(by (conv=>lhs;cbv)<;>(subst hO;rfl)),(by (conv=>lhs;cbv)<;>(subst hO;rfl))⟩,h⟩
 conv=>cbv
 refine br_f hO k2 ?_
 conv=>cbv
 refine br_f hO k2 ?_
 conv=>cbv
 refine br_f hO rfl ?_
 conv=>cbv
 refine br_f hO rfl ?_
 conv=>cbv
 refine br_f hO rfl ?_
 conv=>cbv
 refine br_f hO rfl ?_
 conv=>cbv
 refine br_f hO rfl ?_
 conv=>cbv
 refine br_f hO rfl ?_
 conv=>cbv
 refine br_f hO rfl ?_
 conv=>cbv
 refine br_f hO rfl ?_
 conv=>cbv
 refine br_f hO rfl ?_
 conv=>cbv
 exact hL_1 _ _ ⟨false,⟨(by (conv=>lhs;cbv)<;>(subst hO;rfl)),(by (conv=>lhs;cbv)<;>(subst hO;rfl))⟩,h⟩
 conv=>cbv
 refine br_f hO k1 ?_
 conv=>cbv
 refine br_f hO k1 ?_
 conv=>cbv
 refine br_f hO rfl ?_
 conv=>cbv
 refine br_f hO rfl ?_
 conv=>cbv
 refine br_f hO rfl ?_
 conv=>cbv
 refine br_f hO rfl ?_
 conv=>cbv
 refine br_f hO rfl ?_
 conv=>cbv
 refine br_f hO rfl ?_
 conv=>cbv
 refine br_f hO rfl ?_
 conv=>cbv
 refine br_f hO rfl ?_
 conv=>cbv
 refine br_f hO rfl ?_
 conv=>cbv
 refine br_f hO rfl ?_
 conv=>cbv
 refine br_f hO rfl ?_
 conv=>cbv
 refine br_f hO rfl ?_
 conv=>cbv
 exact hL_1 _ _ ⟨false,⟨(by (conv=>lhs;cbv)<;>(subst hO;rfl)),(by (conv=>lhs;cbv)<;>(subst hO;rfl))⟩,h⟩
 rintro tm m ⟨j27,hs,h⟩
 unfold p13_1 at h
 obtain⟨rfl,rfl⟩:=hs
 conv=>cbv
 rw [b]
 exact⟨j27,⟨(by subst hO;rfl),(by subst hO;rfl)⟩,h⟩
theorem d_p14 (fu:Nat){K0:EL→Int→Prop}(L:EL→Nat)(hN:L=List.length){x0:EL}(h:p14 False fu K0 x0):Den Try.prog G0 14 [.c (.sl 1 x0 none)] (fun r bs=>(∃ (y0:EL) (y1:Int) (o0:OV),(r=.ptr [.c (.sl 1 y0 none),.c (.v (.int .i64 y1))]∧bs=[o0])∧K0 y0 y1)):=by
 obtain⟨O,hO⟩:∃ O,O=std 0 T G0 (Den Try.prog G0):=⟨_,rfl⟩
 have hLO:L=O.len:=by rw [hN,hO];rfl
 subst hLO
 refine den_h hO tiA mixed tabOk (fn:=Try.f14) (sh:=true) (by kernel_rfl) rfl rfl rfl rfl ?_
 intro Q b
 unfold p14 at h
 conv=>cbv
 rw [b]
 exact⟨x0,0,_,⟨(by subst hO;rfl),(by subst hO;rfl)⟩,h⟩
theorem d_p52 (fu:Nat){K0:Int→EL→Int→Prop}(L:EL→Nat)(hN:L=List.length){x0:EL}{x1 x2:Int}(h:p52 False fu K0 x0 x1 x2):Den Try.prog G0 52 [.ptr [.c (.sl 1 x0 none),.c (.v (.int .i64 x1))],.c (.v (.int .i64 x2))] (fun r bs=>(∃ (y0:Int) (y1:EL) (y2:Int) (o1:OV),(r=.c (.v (.int .i64 y0))∧bs=[.ptr [.c (.sl 1 y1 none),.c (.v (.int .i64 y2))],o1])∧K0 y0 y1 y2)):=by
 obtain⟨O,hO⟩:∃ O,O=std 1 T G0 (Den Try.prog G0):=⟨_,rfl⟩
 have hLO:L=O.len:=by rw [hN,hO];rfl
 subst hLO
 refine den_h hO tiA mixed tabOk (fn:=Try.f52) (sh:=true) (by kernel_rfl) rfl rfl rfl rfl ?_
 intro Q b
 unfold p52 at h
 conv=>cbv
 refine z0v hO tiA [[]] [(0,true,false),(1,true,false),(2,true,false),(3,true,false),(4,true,false),(5,true,false),(6,true,false),(7,true,false),(8,true,false),(9,true,true),(10,true,true),(11,true,true),(12,true,true),(13,true,true)] (by kernel_rfl) [0,1,18] [0] [] (fun tm m=>∃ (j1:Bool),((tm=frame 0 40 [(0,.p 0 0 0),(1,.c (.v (.int .i64 x2))),(18,.c (.v (.bool j1)))]∧m=⟨[(0,.blk 0 [.c (.sl 1 x0 none),.c (.v (.int .i64 x1))])],2⟩))∧p52_1 False fu K0 x0 x1 x2 j1) (fun L hL_1=>?_) ?_
 conv=>cbv
 refine br_h hO h (by subst hO;rfl) (fun k2 h=>?_) (fun k2 h=>?_)
 conv=>cbv
 refine br_t hO k2 ?_
 conv=>cbv
 refine br_t hO k2 ?_
 conv=>cbv
 exact hL_1 _ _ ⟨true,⟨(by (conv=>lhs;cbv)<;>(subst hO;rfl)),(by (conv=>lhs;cbv)<;>(subst hO;rfl))⟩,h⟩
 conv=>cbv
 refine br_f hO k2 ?_
 conv=>cbv
 refine br_f hO k2 ?_
 conv=>cbv
 exact hL_1 _ _ ⟨(z0a .lss x2 1),⟨(by (conv=>lhs;cbv)<;>(subst hO;rfl)),(by (conv=>lhs;cbv)<;>(subst hO;rfl))⟩,h⟩
 rintro tm m ⟨j1,hs,h⟩
 unfold p52_1 at h
 obtain⟨rfl,rfl⟩:=hs
 conv=>cbv
 refine br_h hO h (by subst hO;rfl) (fun k1 h=>?_) (fun k1 h=>?_)
 conv=>cbv
 rw [b]
 exact⟨0,x0,x1,_,⟨(by subst hO;rfl),(by subst hO;rfl)⟩,h⟩
 conv=>cbv
 refine z0b hO ?_
 conv=>cbv
 refine z0h hO tiA [[]] [(0,true,false),(1,true,false),(2,true,false),(3,true,false),(4,true,false),(5,true,false),(6,true,false),(7,true,false),(8,true,false),(9,true,false),(10,true,false),(11,true,false),(12,true,false),(13,true,false),(14,true,true)] (by kernel_rfl) ?_
 conv=>cbv
 refine and_h h (fun g=>(by subst hO;exact g)) (fun h=>?_)
 refine and_h h (fun g=>(by subst hO;exact g)) (fun h=>?_)
 obtain⟨c2,hr,h⟩:=w1n h
 refine z0m hO _ (by subst hO;exact hr) ?_
 clear hr
 conv=>cbv
 refine and_h h (fun g=>(by subst hO;exact g)) (fun h=>?_)
 refine z0b hO ?_
 conv=>cbv
 rw [b]
 exact⟨z0d .rem .i64 (IntKind.i64.wrap c2) x2,x0,z0d .add .i64 x1 1,_,⟨(by subst hO;rfl),(by subst hO;rfl)⟩,h⟩
theorem d_p152 (fu:Nat){K0:ByteArray→Int→Int→Int→Int→Int→Prop}(L:EL→Nat)(hN:L=List.length){x0:ByteArray}{x1 x2 x3 x4 x5:Int}(h:p152 False fu K0 x0 x1 x2 x3 x4 x5):Den Try.prog G0 152 [.ptr [.c (.v (.string x0)),.c (.v (.int .i64 x1)),.c (.v (.int .i64 x2)),.c (.v (.int .i64 x3)),.c (.v (.int .i64 x4)),.c (.v (.int .i64 x5))]] (fun r bs=>(∃ (y0:ByteArray) (y1 y2 y3 y4 y5:Int),(r=.tup []∧bs=[.ptr [.c (.v (.string y0)),.c (.v (.int .i64 y1)),.c (.v (.int .i64 y2)),.c (.v (.int .i64 y3)),.c (.v (.int .i64 y4)),.c (.v (.int .i64 y5))]])∧K0 y0 y1 y2 y3 y4 y5)):=by
 obtain⟨O,hO⟩:∃ O,O=std 1 T G0 (Den Try.prog G0):=⟨_,rfl⟩
 have hLO:L=O.len:=by rw [hN,hO];rfl
 subst hLO
 refine den_h hO tiA mixed tabOk (fn:=Try.f152) (sh:=true) (by kernel_rfl) rfl rfl rfl rfl ?_
 intro Q b
 unfold p152 at h
 conv=>cbv
 refine z0r hO tiA [0] [0] [] (fun (n:Nat) tm m=>∃ (z1:Int),((tm=frame 0 43 [(0,.p 0 0 0)]∧m=⟨[(0,.blk 0 [.c (.v (.string x0)),.c (.v (.int .i64 z1)),.c (.v (.int .i64 x2)),.c (.v (.int .i64 x3)),.c (.v (.int .i64 x4)),.c (.v (.int .i64 x5))])],2⟩))∧p152_2L False fu K0 x0 x2 x3 x4 x5 n z1) (fun n=>n) fu ⟨x1,⟨(by (conv=>lhs;cbv)<;>(subst hO;rfl)),(by (conv=>lhs;cbv)<;>(subst hO;rfl))⟩,h⟩ ?_
 rintro n1 tm m L ⟨z1,hs,h⟩ hLn1
 (cases n1 with
 | zero=>rw [p152_2L] at h;exact h.elim
 | succ n1 =>
 rw [p152_2L] at h
 unfold p152_2 at h
 obtain⟨rfl,rfl⟩:=hs
 conv=>cbv
 refine z0v hO tiA [[]] [(0,true,false),(1,true,false),(2,true,false),(3,true,false),(4,true,false),(5,true,false),(6,true,false),(7,true,false),(8,true,false),(9,true,false),(10,true,false),(11,true,false),(12,true,false),(13,true,false),(14,true,false),(15,true,false),(16,true,false),(17,true,false),(18,true,false),(19,true,false),(20,true,false),(21,true,false),(22,true,false),(23,true,false),(24,true,false),(25,true,false),(26,true,false),(27,true,false),(28,true,false),(29,true,false),(30,true,false),(31,true,false),(32,true,true),(33,true,false)] (by kernel_rfl) [0,35] [0] [] (fun tm m=>∃ (j2:Bool),((tm=frame 0 43 [(0,.p 0 0 0),(35,.c (.v (.bool j2)))]∧m=⟨[(0,.blk 0 [.c (.v (.string x0)),.c (.v (.int .i64 z1)),.c (.v (.int .i64 x2)),.c (.v (.int .i64 x3)),.c (.v (.int .i64 x4)),.c (.v (.int .i64 x5))])],2⟩))∧p152_1 False fu K0 (p152_2L False fu K0 x0 x2 x3 x4 x5 n1) x0 x2 x3 x4 x5 z1 j2) (fun L hL_1=>?_) ?_
 conv=>cbv
 refine br_h hO h (by subst hO;rfl) (fun k2 h=>?_) (fun k2 h=>?_)
 conv=>cbv
 refine br_t hO k2 ?_
 conv=>cbv
 refine br_t hO k2 ?_
 conv=>cbv
 refine br_t hO k2 ?_
 conv=>cbv
 refine br_t hO k2 ?_
 conv=>cbv
 refine br_t hO k2 ?_
 conv=>cbv
 refine br_t hO k2 ?_
 conv=>cbv
 refine br_t hO k2 ?_
 conv=>cbv
 refine br_t hO k2 ?_
 conv=>cbv
 refine and_h h (fun g=>(by subst hO;exact g)) (fun h=>?_)
 refine and_h h (fun g=>(by subst hO;exact g)) (fun h=>?_)
 refine br_t hO k2 ?_
 conv=>cbv
 refine br_t hO k2 ?_
 conv=>cbv
 refine br_h hO h (by subst hO;rfl) (fun k3 h=>?_) (fun k3 h=>?_)
 conv=>cbv
 refine br_t hO k3 ?_
 conv=>cbv
 refine br_t hO k3 ?_
 conv=>cbv
 refine br_t hO k3 ?_
 conv=>cbv
 refine br_t hO k3 ?_
 conv=>cbv
 refine br_t hO k3 ?_
 conv=>cbv
 refine br_t hO k3 ?_
 conv=>cbv
 refine br_t hO k3 ?_
 conv=>cbv
 refine br_t hO k3 ?_
 conv=>cbv
 refine br_t hO k3 ?_
 conv=>cbv
 refine br_t hO k2 ?_
 conv=>cbv
 refine br_t hO k3 ?_
 conv=>cbv
 refine br_t hO k2 ?_
 conv=>cbv
 exact hL_1 _ _ ⟨true,⟨(by (conv=>lhs;cbv)<;>(subst hO;rfl)),(by (conv=>lhs;cbv)<;>(subst hO;rfl))⟩,h⟩
 conv=>cbv
 refine br_f hO k3 ?_
 conv=>cbv
 refine br_f hO k3 ?_
 conv=>cbv
 refine br_f hO k3 ?_
 conv=>cbv
 refine br_f hO k3 ?_
 conv=>cbv
 refine br_f hO k3 ?_
 conv=>cbv
 refine br_f hO k3 ?_
 conv=>cbv
 refine br_f hO k3 ?_
 conv=>cbv
 refine br_f hO k3 ?_
 conv=>cbv
 refine and_h h (fun g=>(by subst hO;exact g)) (fun h=>?_)
 refine and_h h (fun g=>(by subst hO;exact g)) (fun h=>?_)
 refine br_f hO k3 ?_
 conv=>cbv
 refine br_t hO k2 ?_
 conv=>cbv
 refine br_f hO k3 ?_
 conv=>cbv
 refine br_t hO k2 ?_
 conv=>cbv
 exact hL_1 _ _ ⟨(z0a .eql ((List.getD x0.data.toList (z1:Int).toNat 0).toNat:Nat) 10),⟨(by (conv=>lhs;cbv)<;>(subst hO;rfl)),(by (conv=>lhs;cbv)<;>(subst hO;rfl))⟩,h⟩
 conv=>cbv
 refine br_f hO k2 ?_
 conv=>cbv
 refine br_f hO k2 ?_
 conv=>cbv
 refine br_f hO k2 ?_
 conv=>cbv
 refine br_f hO k2 ?_
 conv=>cbv
 refine br_f hO k2 ?_
 conv=>cbv
 refine br_f hO k2 ?_
 conv=>cbv
 refine br_f hO k2 ?_
 conv=>cbv
 refine br_f hO k2 ?_
 conv=>cbv
 refine br_f hO k2 ?_
 conv=>cbv
 refine br_f hO k2 ?_
 conv=>cbv
 refine br_f hO k2 ?_
 conv=>cbv
 refine br_f hO k2 ?_
 conv=>cbv
 exact hL_1 _ _ ⟨false,⟨(by (conv=>lhs;cbv)<;>(subst hO;rfl)),(by (conv=>lhs;cbv)<;>(subst hO;rfl))⟩,h⟩
 rintro tm m ⟨j2,hs,h⟩
 unfold p152_1 at h
 obtain⟨rfl,rfl⟩:=hs
 conv=>cbv
 refine br_h hO h (by subst hO;rfl) (fun k1 h=>?_) (fun k1 h=>?_)
 conv=>cbv
 refine z0b hO ?_
 conv=>cbv
 exact hLn1 n1 _ _ (Nat.lt_succ_self n1) ⟨z0d .add .i64 z1 1,⟨(by (conv=>lhs;cbv)<;>(subst hO;rfl)),(by (conv=>lhs;cbv)<;>(subst hO;rfl))⟩,h⟩
 conv=>cbv
 rw [b]
 exact⟨x0,z1,x2,x3,x4,x5,⟨(by subst hO;rfl),(by subst hO;rfl)⟩,h⟩)
theorem d_p145 (fu:Nat){K0:Int→ByteArray→Int→Int→Int→Int→Int→Prop}(L:EL→Nat)(hN:L=List.length){x0:ByteArray}{x1 x2 x3 x4 x5:Int}(h:p145 False fu K0 x0 x1 x2 x3 x4 x5):Den Try.prog G0 145 [.ptr [.c (.v (.string x0)),.c (.v (.int .i64 x1)),.c (.v (.int .i64 x2)),.c (.v (.int .i64 x3)),.c (.v (.int .i64 x4)),.c (.v (.int .i64 x5))]] (fun r bs=>(∃ (y0:Int) (y1:ByteArray) (y2 y3 y4 y5 y6:Int),(r=.c (.v (.int .u8 y0))∧bs=[.ptr [.c (.v (.string y1)),.c (.v (.int .i64 y2)),.c (.v (.int .i64 y3)),.c (.v (.int .i64 y4)),.c (.v (.int .i64 y5)),.c (.v (.int .i64 y6))]])∧K0 y0 y1 y2 y3 y4 y5 y6)):=by
 obtain⟨O,hO⟩:∃ O,O=std 1 T G0 (Den Try.prog G0):=⟨_,rfl⟩
 have hLO:L=O.len:=by rw [hN,hO];rfl
 subst hLO
 refine den_h hO tiA mixed tabOk (fn:=Try.f145) (sh:=true) (by kernel_rfl) rfl rfl rfl rfl ?_
 intro Q b
 unfold p145 at h
 conv=>cbv
 refine z0c hO [.ref 6] (d_p152 fu O.len hN h) ?_
 intro e Q a b
 conv=>cbv
 refine⟨by subst a hO;rfl,?_⟩
 intro r bs d
 rw [b] at d
 clear a b h
 obtain⟨y1,y2,y3,y4,y5,y6,⟨rfl,rfl⟩,h⟩:=d
 conv=>cbv
 refine z0v hO tiA [[]] [(0,true,false),(1,true,false),(2,true,false),(3,true,false),(4,true,false),(5,true,false),(6,true,false),(7,true,false),(8,true,false),(9,true,false),(10,true,false),(11,true,false),(12,true,false),(13,true,false),(14,true,false),(15,true,true),(16,true,true)] (by kernel_rfl) [0,21] [0] [] (fun tm m=>∃ (j7:Bool),((tm=frame 0 31 [(0,.p 0 0 0),(21,.c (.v (.bool j7)))]∧m=⟨[(0,.blk 0 [.c (.v (.string y1)),.c (.v (.int .i64 y2)),.c (.v (.int .i64 y3)),.c (.v (.int .i64 y4)),.c (.v (.int .i64 y5)),.c (.v (.int .i64 y6))])],2⟩))∧p145_1 False fu K0 y1 y2 y3 y4 y5 y6 j7) (fun L hL_1=>?_) ?_
 conv=>cbv
 refine br_h hO h (by subst hO;rfl) (fun k2 h=>?_) (fun k2 h=>?_)
 conv=>cbv
 refine br_t hO k2 ?_
 conv=>cbv
 refine br_t hO k2 ?_
 conv=>cbv
 refine br_t hO k2 ?_
 conv=>cbv
 refine br_t hO k2 ?_
 conv=>cbv
 refine br_t hO k2 ?_
 conv=>cbv
 refine br_t hO k2 ?_
 conv=>cbv
 refine br_t hO k2 ?_
 conv=>cbv
 refine br_t hO k2 ?_
 conv=>cbv
 refine br_t hO k2 ?_
 conv=>cbv
 refine br_t hO k2 ?_
 conv=>cbv
 exact hL_1 _ _ ⟨true,⟨(by (conv=>lhs;cbv)<;>(subst hO;rfl)),(by (conv=>lhs;cbv)<;>(subst hO;rfl))⟩,h⟩
 conv=>cbv
 refine br_f hO k2 ?_
 conv=>cbv
 refine br_f hO k2 ?_
 conv=>cbv
 refine br_f hO k2 ?_
 conv=>cbv
 refine br_f hO k2 ?_
 conv=>cbv
 refine br_f hO k2 ?_
 conv=>cbv
 refine br_f hO k2 ?_
 conv=>cbv
 refine br_f hO k2 ?_
 conv=>cbv
 refine br_f hO k2 ?_
 conv=>cbv
 refine br_f hO k2 ?_
 conv=>cbv
 refine br_f hO k2 ?_
 conv=>cbv
 exact hL_1 _ _ ⟨(z0a .geq y2 ((y1.size:Nat):Int)),⟨(by (conv=>lhs;cbv)<;>(subst hO;rfl)),(by (conv=>lhs;cbv)<;>(subst hO;rfl))⟩,h⟩
 rintro tm m ⟨j7,hs,h⟩
 unfold p145_1 at h
 obtain⟨rfl,rfl⟩:=hs
 conv=>cbv
 refine br_h hO h (by subst hO;rfl) (fun k1 h=>?_) (fun k1 h=>?_)
 conv=>cbv
 rw [b]
 exact⟨0,y1,y2,y3,y4,y5,y6,⟨(by subst hO;rfl),(by subst hO;rfl)⟩,h⟩
 conv=>cbv
 refine z0b hO ?_
 conv=>cbv
 refine z0h hO tiA [[]] [(0,true,false),(1,true,false),(2,true,false),(3,true,false),(4,true,false),(5,true,false),(6,true,false),(7,true,false),(8,true,true),(9,true,true)] (by kernel_rfl) ?_
 conv=>cbv
 refine and_h h (fun g=>(by subst hO;exact g)) (fun h=>?_)
 refine and_h h (fun g=>(by subst hO;exact g)) (fun h=>?_)
 refine z0b hO ?_
 conv=>cbv
 rw [b]
 exact⟨((List.getD y1.data.toList (y2:Int).toNat 0).toNat:Nat),y1,y2,y3,y4,y5,y6,⟨(by subst hO;rfl),(by subst hO;rfl)⟩,h⟩
theorem d_p146 (fu:Nat){K0:Bool→Prop}(L:EL→Nat)(hN:L=List.length){x0:Int}(h:p146 False fu K0 x0):Den Try.prog G0 146 [.c (.v (.int .u8 x0))] (fun r bs=>(∃ (y0:Bool) (o0:OV),(r=.c (.v (.bool y0))∧bs=[o0])∧K0 y0)):=by
 obtain⟨O,hO⟩:∃ O,O=std 0 T G0 (Den Try.prog G0):=⟨_,rfl⟩
 have hLO:L=O.len:=by rw [hN,hO];rfl
 subst hLO
 refine den_h hO tiA mixed tabOk (fn:=Try.f146) (sh:=true) (by kernel_rfl) rfl rfl rfl rfl ?_
 intro Q b
 unfold p146 at h
 conv=>cbv
 refine z0u hO tiA [2] [] [] (fun tm m=>∃ (j1:Bool),((tm=frame 0 17 [(2,.c (.v (.bool j1)))]∧m=⟨[],1⟩))∧p146_1 False fu K0 j1) (fun L hL_1=>?_) ?_
 conv=>cbv
 refine br_h hO h (by subst hO;rfl) (fun k1 h=>?_) (fun k1 h=>?_)
 conv=>cbv
 refine br_t hO k1 ?_
 conv=>cbv
 refine br_t hO k1 ?_
 conv=>cbv
 refine br_h hO h (by subst hO;rfl) (fun k2 h=>?_) (fun k2 h=>?_)
 conv=>cbv
 refine br_t hO k2 ?_
 conv=>cbv
 refine br_t hO k2 ?_
 conv=>cbv
 refine br_t hO k2 ?_
 conv=>cbv
 refine br_t hO k2 ?_
 conv=>cbv
 exact hL_1 _ _ ⟨true,⟨(by (conv=>lhs;cbv)<;>(subst hO;rfl)),(by (conv=>lhs;cbv)<;>(subst hO;rfl))⟩,h⟩
 conv=>cbv
 refine br_f hO k2 ?_
 conv=>cbv
 refine br_f hO k2 ?_
 conv=>cbv
 refine br_h hO h (by subst hO;rfl) (fun k3 h=>?_) (fun k3 h=>?_)
 conv=>cbv
 refine br_t hO k3 ?_
 conv=>cbv
 refine br_f hO k2 ?_
 conv=>cbv
 refine br_t hO k3 ?_
 conv=>cbv
 refine br_f hO k2 ?_
 conv=>cbv
 exact hL_1 _ _ ⟨(z0a .leq x0 90),⟨(by (conv=>lhs;cbv)<;>(subst hO;rfl)),(by (conv=>lhs;cbv)<;>(subst hO;rfl))⟩,h⟩
 conv=>cbv
 refine br_f hO k3 ?_
 conv=>cbv
 refine br_f hO k2 ?_
 conv=>cbv
 refine br_f hO k3 ?_
 conv=>cbv
 refine br_f hO k2 ?_
 conv=>cbv
 exact hL_1 _ _ ⟨false,⟨(by (conv=>lhs;cbv)<;>(subst hO;rfl)),(by (conv=>lhs;cbv)<;>(subst hO;rfl))⟩,h⟩
 conv=>cbv
 refine br_f hO k1 ?_
 conv=>cbv
 refine br_f hO k1 ?_
 conv=>cbv
 refine br_f hO rfl ?_
 conv=>cbv
 refine br_f hO rfl ?_
 conv=>cbv
 refine br_f hO rfl ?_
 conv=>cbv
 refine br_h hO h (by subst hO;rfl) (fun k4 h=>?_) (fun k4 h=>?_)
 conv=>cbv
 refine br_t hO k4 ?_
 conv=>cbv
 refine br_f hO rfl ?_
 conv=>cbv
 refine br_t hO k4 ?_
 conv=>cbv
 refine br_f hO rfl ?_
 conv=>cbv
 exact hL_1 _ _ ⟨(z0a .leq x0 90),⟨(by (conv=>lhs;cbv)<;>(subst hO;rfl)),(by (conv=>lhs;cbv)<;>(subst hO;rfl))⟩,h⟩
 conv=>cbv
 refine br_f hO k4 ?_
 conv=>cbv
 refine br_f hO rfl ?_
 conv=>cbv
 refine br_f hO k4 ?_
 conv=>cbv
 refine br_f hO rfl ?_
 conv=>cbv
 exact hL_1 _ _ ⟨false,⟨(by (conv=>lhs;cbv)<;>(subst hO;rfl)),(by (conv=>lhs;cbv)<;>(subst hO;rfl))⟩,h⟩
 rintro tm m ⟨j1,hs,h⟩
 unfold p146_1 at h
 obtain⟨rfl,rfl⟩:=hs
 conv=>cbv
 rw [b]
 exact⟨j1,_,⟨(by subst hO;rfl),(by subst hO;rfl)⟩,h⟩
theorem d_p147 (fu:Nat){K0:ByteArray→Int→Int→Int→Int→Int→Prop}(L:EL→Nat)(hN:L=List.length){x0:ByteArray}{x1 x2 x3 x4 x5 x6 x7:Int}(h:p147 False fu K0 x0 x1 x2 x3 x4 x5 x6 x7):Den Try.prog G0 147 [.ptr [.c (.v (.string x0)),.c (.v (.int .i64 x1)),.c (.v (.int .i64 x2)),.c (.v (.int .i64 x3)),.c (.v (.int .i64 x4)),.c (.v (.int .i64 x5))],.c (.v (.int .i64 x6)),.c (.v (.int .i64 x7))] (fun r bs=>(∃ (y0:ByteArray) (y1 y2 y3 y4 y5:Int) (o1 o2:OV),(r=.tup []∧bs=[.ptr [.c (.v (.string y0)),.c (.v (.int .i64 y1)),.c (.v (.int .i64 y2)),.c (.v (.int .i64 y3)),.c (.v (.int .i64 y4)),.c (.v (.int .i64 y5))],o1,o2])∧K0 y0 y1 y2 y3 y4 y5)):=by
 obtain⟨O,hO⟩:∃ O,O=std 1 T G0 (Den Try.prog G0):=⟨_,rfl⟩
 have hLO:L=O.len:=by rw [hN,hO];rfl
 subst hLO
 refine den_h hO tiA mixed tabOk (fn:=Try.f147) (sh:=true) (by kernel_rfl) rfl rfl rfl rfl ?_
 intro Q b
 unfold p147 at h
 conv=>cbv
 refine z0f hO tiA h (by subst hO;rfl) [] [0] [] (fun tm m=>∃ (j1:Int) (j2:Int),((tm=frame 0 19 []∧m=⟨[(0,.blk 0 [.c (.v (.string x0)),.c (.v (.int .i64 x1)),.c (.v (.int .i64 j1)),.c (.v (.int .i64 j2)),.c (.v (.int .i64 x4)),.c (.v (.int .i64 x5))])],2⟩))∧p147_1 False fu K0 x0 x1 x4 x5 j1 j2) (fun k1 h L hL_1=>?_) (fun k1 h L hL_1=>?_) ?_
 conv=>cbv
 exact hL_1 _ _ ⟨x6,x7,⟨(by (conv=>lhs;cbv)<;>(subst hO;rfl)),(by (conv=>lhs;cbv)<;>(subst hO;rfl))⟩,h⟩
 conv=>cbv
 exact hL_1 _ _ ⟨x2,x3,⟨(by (conv=>lhs;cbv)<;>(subst hO;rfl)),(by (conv=>lhs;cbv)<;>(subst hO;rfl))⟩,h⟩
 rintro tm m ⟨j1,j2,hs,h⟩
 unfold p147_1 at h
 obtain⟨rfl,rfl⟩:=hs
 conv=>cbv
 rw [b]
 exact⟨x0,x1,j1,j2,x4,x5,_,_,⟨(by subst hO;rfl),(by subst hO;rfl)⟩,h⟩
theorem d_p154 (fu:Nat){K0:Bool→Prop}(L:EL→Nat)(hN:L=List.length){x0:Int}(h:p154 False fu K0 x0):Den Try.prog G0 154 [.c (.v (.int .u8 x0))] (fun r bs=>(∃ (y0:Bool) (o0:OV),(r=.c (.v (.bool y0))∧bs=[o0])∧K0 y0)):=by
 obtain⟨O,hO⟩:∃ O,O=std 0 T G0 (Den Try.prog G0):=⟨_,rfl⟩
 have hLO:L=O.len:=by rw [hN,hO];rfl
 subst hLO
 refine den_h hO tiA mixed tabOk (fn:=Try.f154) (sh:=true) (by kernel_rfl) rfl rfl rfl rfl ?_
 intro Q b
 unfold p154 at h
 conv=>cbv
 refine z0u hO tiA [2] [] [] (fun tm m=>∃ (j1:Bool),((tm=frame 0 9 [(2,.c (.v (.bool j1)))]∧m=⟨[],1⟩))∧p154_1 False fu K0 j1) (fun L hL_1=>?_) ?_
 conv=>cbv
 refine br_h hO h (by subst hO;rfl) (fun k1 h=>?_) (fun k1 h=>?_)
 conv=>cbv
 refine br_t hO k1 ?_
 conv=>cbv
 refine br_t hO k1 ?_
 conv=>cbv
 exact hL_1 _ _ ⟨(z0a .leq x0 57),⟨(by (conv=>lhs;cbv)<;>(subst hO;rfl)),(by (conv=>lhs;cbv)<;>(subst hO;rfl))⟩,h⟩
 conv=>cbv
 refine br_f hO k1 ?_
 conv=>cbv
 refine br_f hO k1 ?_
 conv=>cbv
 exact hL_1 _ _ ⟨false,⟨(by (conv=>lhs;cbv)<;>(subst hO;rfl)),(by (conv=>lhs;cbv)<;>(subst hO;rfl))⟩,h⟩
 rintro tm m ⟨j1,hs,h⟩
 unfold p154_1 at h
 obtain⟨rfl,rfl⟩:=hs
 conv=>cbv
 rw [b]
 exact⟨j1,_,⟨(by subst hO;rfl),(by subst hO;rfl)⟩,h⟩
theorem d_p153 (fu:Nat){K0:Int→Prop}(L:EL→Nat)(hN:L=List.length){x0:ByteArray}(h:p153 False fu K0 x0):Den Try.prog G0 153 [.c (.v (.string x0))] (fun r bs=>(∃ (y0:Int) (o0:OV),(r=.c (.v (.int .i64 y0))∧bs=[o0])∧K0 y0)):=by
 obtain⟨O,hO⟩:∃ O,O=std 0 T G0 (Den Try.prog G0):=⟨_,rfl⟩
 have hLO:L=O.len:=by rw [hN,hO];rfl
 subst hLO
 refine den_h hO tiA mixed tabOk (fn:=Try.f153) (sh:=true) (by kernel_rfl) rfl rfl rfl rfl ?_
 intro Q b
 unfold p153 at h
 conv=>cbv
 refine z0u hO tiA [0,12] [] [] (fun tm m=>∃ (j1:Bool),((tm=frame 0 59 [(0,.c (.v (.string x0))),(12,.c (.v (.bool j1)))]∧m=⟨[],1⟩))∧p153_5 False fu K0 x0 j1) (fun L hL_5=>?_) ?_
 conv=>cbv
 refine br_h hO h (by subst hO;rfl) (fun k9 h=>?_) (fun k9 h=>?_)
 conv=>cbv
 refine br_t hO k9 ?_
 conv=>cbv
 refine br_t hO k9 ?_
 conv=>cbv
 refine br_t hO k9 ?_
 conv=>cbv
 refine br_t hO k9 ?_
 conv=>cbv
 exact hL_5 _ _ ⟨true,⟨(by (conv=>lhs;cbv)<;>(subst hO;rfl)),(by (conv=>lhs;cbv)<;>(subst hO;rfl))⟩,h⟩
 conv=>cbv
 refine br_f hO k9 ?_
 conv=>cbv
 refine and_h h (fun g=>(by subst hO;exact g)) (fun h=>?_)
 refine and_h h (fun g=>(by subst hO;exact g)) (fun h=>?_)
 refine br_f hO k9 ?_
 conv=>cbv
 refine z0c hO [.shut] (d_p146 fu O.len hN h) ?_
 intro e Q a b
 conv=>cbv
 refine⟨by subst a hO;rfl,?_⟩
 intro r bs d
 rw [b] at d
 clear a b h
 obtain⟨y9,_,⟨rfl,rfl⟩,h⟩:=d
 conv=>cbv
 refine br_f hO k9 ?_
 conv=>cbv
 refine br_f hO k9 ?_
 conv=>cbv
 exact hL_5 _ _ ⟨(!y9),⟨(by (conv=>lhs;cbv)<;>(subst hO;rfl)),(by (conv=>lhs;cbv)<;>(subst hO;rfl))⟩,h⟩
 rintro tm m ⟨j1,hs,h⟩
 unfold p153_5 at h
 obtain⟨rfl,rfl⟩:=hs
 conv=>cbv
 refine br_h hO h (by subst hO;rfl) (fun k1 h=>?_) (fun k1 h=>?_)
 conv=>cbv
 rw [b]
 exact⟨0,_,⟨(by subst hO;rfl),(by subst hO;rfl)⟩,h⟩
 conv=>cbv
 refine z0b hO ?_
 conv=>cbv
 refine z0r hO tiA [0,3] [] [] (fun (n:Nat) tm m=>∃ (z2:Int),((tm=frame 0 59 [(0,.c (.v (.string x0))),(3,.c (.v (.int .i64 z2)))]∧m=⟨[],1⟩))∧p153_4L False fu K0 x0 n z2) (fun n=>n) fu ⟨1,⟨(by (conv=>lhs;cbv)<;>(subst hO;rfl)),(by (conv=>lhs;cbv)<;>(subst hO;rfl))⟩,h⟩ ?_
 rintro n1 tm m L ⟨z2,hs,h⟩ hLn1
 (cases n1 with
 | zero=>rw [p153_4L] at h;exact h.elim
 | succ n1 =>
 rw [p153_4L] at h
 unfold p153_4 at h
 obtain⟨rfl,rfl⟩:=hs
 conv=>cbv
 refine br_h hO h (by subst hO;rfl) (fun k2 h=>?_) (fun k2 h=>?_)
 conv=>cbv
 refine z0b hO ?_
 conv=>cbv
 refine z0u hO tiA [0,3,18] [] [] (fun tm m=>∃ (j3:Bool),((tm=frame 0 59 [(0,.c (.v (.string x0))),(3,.c (.v (.int .i64 z2))),(18,.c (.v (.bool j3)))]∧m=⟨[],1⟩))∧p153_3 False fu K0 (p153_4L False fu K0 x0 n1) x0 z2 j3) (fun L hL_3=>?_) ?_
 conv=>cbv
 refine and_h h (fun g=>(by subst hO;exact g)) (fun h=>?_)
 refine and_h h (fun g=>(by subst hO;exact g)) (fun h=>?_)
 refine z0c hO [.shut] (d_p146 fu O.len hN h) ?_
 intro e Q a b
 conv=>cbv
 refine⟨by subst a hO;rfl,?_⟩
 intro r bs d
 rw [b] at d
 clear a b h
 obtain⟨y7,_,⟨rfl,rfl⟩,h⟩:=d
 conv=>cbv
 refine br_h hO h (by subst hO;rfl) (fun k7 h=>?_) (fun k7 h=>?_)
 conv=>cbv
 refine br_t hO k7 ?_
 conv=>cbv
 refine br_t hO k7 ?_
 conv=>cbv
 refine br_t hO k7 ?_
 conv=>cbv
 refine br_t hO k7 ?_
 conv=>cbv
 refine br_t hO rfl ?_
 conv=>cbv
 refine br_t hO rfl ?_
 conv=>cbv
 refine br_t hO rfl ?_
 conv=>cbv
 refine br_t hO rfl ?_
 conv=>cbv
 refine br_t hO rfl ?_
 conv=>cbv
 exact hL_3 _ _ ⟨true,⟨(by (conv=>lhs;cbv)<;>(subst hO;rfl)),(by (conv=>lhs;cbv)<;>(subst hO;rfl))⟩,h⟩
 conv=>cbv
 refine br_f hO k7 ?_
 conv=>cbv
 refine br_f hO k7 ?_
 conv=>cbv
 refine and_h h (fun g=>(by subst hO;exact g)) (fun h=>?_)
 refine and_h h (fun g=>(by subst hO;exact g)) (fun h=>?_)
 refine br_f hO k7 ?_
 conv=>cbv
 refine z0c hO [.shut] (d_p154 fu O.len hN h) ?_
 intro e Q a b
 conv=>cbv
 refine⟨by subst a hO;rfl,?_⟩
 intro r bs d
 rw [b] at d
 clear a b h
 obtain⟨y8,_,⟨rfl,rfl⟩,h⟩:=d
 conv=>cbv
 refine br_f hO k7 ?_
 conv=>cbv
 refine br_h hO h (by subst hO;rfl) (fun k8 h=>?_) (fun k8 h=>?_)
 conv=>cbv
 refine br_t hO k8 ?_
 conv=>cbv
 refine br_t hO k8 ?_
 conv=>cbv
 refine br_t hO k8 ?_
 conv=>cbv
 refine br_t hO k8 ?_
 conv=>cbv
 exact hL_3 _ _ ⟨true,⟨(by (conv=>lhs;cbv)<;>(subst hO;rfl)),(by (conv=>lhs;cbv)<;>(subst hO;rfl))⟩,h⟩
 conv=>cbv
 refine br_f hO k8 ?_
 conv=>cbv
 refine br_f hO k8 ?_
 conv=>cbv
 refine and_h h (fun g=>(by subst hO;exact g)) (fun h=>?_)
 refine and_h h (fun g=>(by subst hO;exact g)) (fun h=>?_)
 refine br_f hO k8 ?_
 conv=>cbv
 refine br_f hO k8 ?_
 conv=>cbv
 exact hL_3 _ _ ⟨(z0a .eql ((List.getD x0.data.toList (z2:Int).toNat 0).toNat:Nat) 95),⟨(by (conv=>lhs;cbv)<;>(subst hO;rfl)),(by (conv=>lhs;cbv)<;>(subst hO;rfl))⟩,h⟩
 rintro tm m ⟨j3,hs,h⟩
 unfold p153_3 at h
 obtain⟨rfl,rfl⟩:=hs
 conv=>cbv
 refine z0f hO tiA h (by subst hO;rfl) [0,3] [] [] (fun tm m=>∃ (j4:Int),((tm=frame 0 59 [(0,.c (.v (.string x0))),(3,.c (.v (.int .i64 j4)))]∧m=⟨[],1⟩))∧p153_1 False fu K0 (p153_4L False fu K0 x0 n1) j4) (fun k3 h L hL_1=>?_) (fun k3 h L hL_1=>?_) ?_
 conv=>cbv
 exact hL_1 _ _ ⟨z0d .add .i64 z2 1,⟨(by (conv=>lhs;cbv)<;>(subst hO;rfl)),(by (conv=>lhs;cbv)<;>(subst hO;rfl))⟩,h⟩
 conv=>cbv
 refine z0u hO tiA [0,3,37] [] [] (fun tm m=>∃ (j5:Bool),((tm=frame 0 59 [(0,.c (.v (.string x0))),(3,.c (.v (.int .i64 z2))),(37,.c (.v (.bool j5)))]∧m=⟨[],1⟩))∧p153_2 False fu K0 (p153_4L False fu K0 x0 n1) z2 j5) (fun L hL_2=>?_) ?_
 conv=>cbv
 refine and_h h (fun g=>(by subst hO;exact g)) (fun h=>?_)
 refine and_h h (fun g=>(by subst hO;exact g)) (fun h=>?_)
 refine br_h hO h (by subst hO;rfl) (fun k5 h=>?_) (fun k5 h=>?_)
 conv=>cbv
 refine br_t hO k5 ?_
 conv=>cbv
 refine br_t hO k5 ?_
 conv=>cbv
 refine br_t hO k5 ?_
 conv=>cbv
 refine br_t hO k5 ?_
 conv=>cbv
 refine br_t hO k5 ?_
 conv=>cbv
 refine br_h hO h (by subst hO;rfl) (fun k6 h=>?_) (fun k6 h=>?_)
 conv=>cbv
 refine br_t hO k6 ?_
 conv=>cbv
 refine br_t hO k6 ?_
 conv=>cbv
 refine br_t hO k6 ?_
 conv=>cbv
 refine and_h h (fun g=>(by subst hO;exact g)) (fun h=>?_)
 refine and_h h (fun g=>(by subst hO;exact g)) (fun h=>?_)
 refine br_t hO k6 ?_
 conv=>cbv
 refine z0c hO [.shut] (d_p146 fu O.len hN h) ?_
 intro e Q a b
 conv=>cbv
 refine⟨by subst a hO;rfl,?_⟩
 intro r bs d
 rw [b] at d
 clear a b h
 obtain⟨y6,_,⟨rfl,rfl⟩,h⟩:=d
 conv=>cbv
 refine br_t hO k6 ?_
 conv=>cbv
 exact hL_2 _ _ ⟨y6,⟨(by (conv=>lhs;cbv)<;>(subst hO;rfl)),(by (conv=>lhs;cbv)<;>(subst hO;rfl))⟩,h⟩
 conv=>cbv
 refine br_f hO k6 ?_
 conv=>cbv
 refine br_f hO k6 ?_
 conv=>cbv
 refine br_f hO k6 ?_
 conv=>cbv
 refine br_f hO k6 ?_
 conv=>cbv
 refine br_f hO k6 ?_
 conv=>cbv
 exact hL_2 _ _ ⟨false,⟨(by (conv=>lhs;cbv)<;>(subst hO;rfl)),(by (conv=>lhs;cbv)<;>(subst hO;rfl))⟩,h⟩
 conv=>cbv
 refine br_f hO k5 ?_
 conv=>cbv
 refine br_f hO k5 ?_
 conv=>cbv
 refine br_f hO k5 ?_
 conv=>cbv
 refine br_f hO k5 ?_
 conv=>cbv
 refine br_f hO k5 ?_
 conv=>cbv
 refine br_f hO rfl ?_
 conv=>cbv
 refine br_f hO rfl ?_
 conv=>cbv
 refine br_f hO rfl ?_
 conv=>cbv
 refine br_f hO rfl ?_
 conv=>cbv
 refine br_f hO rfl ?_
 conv=>cbv
 refine br_f hO rfl ?_
 conv=>cbv
 exact hL_2 _ _ ⟨false,⟨(by (conv=>lhs;cbv)<;>(subst hO;rfl)),(by (conv=>lhs;cbv)<;>(subst hO;rfl))⟩,h⟩
 rintro tm m ⟨j5,hs,h⟩
 unfold p153_2 at h
 obtain⟨rfl,rfl⟩:=hs
 conv=>cbv
 refine br_h hO h (by subst hO;rfl) (fun k4 h=>?_) (fun k4 h=>?_)
 conv=>cbv
 refine z0b hO ?_
 conv=>cbv
 exact hL_1 _ _ ⟨z0d .add .i64 z2 1,⟨(by (conv=>lhs;cbv)<;>(subst hO;rfl)),(by (conv=>lhs;cbv)<;>(subst hO;rfl))⟩,h⟩
 conv=>cbv
 rw [b]
 exact⟨z2,_,⟨(by subst hO;rfl),(by subst hO;rfl)⟩,h⟩
 rintro tm m ⟨j4,hs,h⟩
 unfold p153_1 at h
 obtain⟨rfl,rfl⟩:=hs
 conv=>cbv
 exact hLn1 n1 _ _ (Nat.lt_succ_self n1) ⟨j4,⟨(by (conv=>lhs;cbv)<;>(subst hO;rfl)),(by (conv=>lhs;cbv)<;>(subst hO;rfl))⟩,h⟩
 conv=>cbv
 rw [b]
 exact⟨z2,_,⟨(by subst hO;rfl),(by subst hO;rfl)⟩,h⟩)
theorem d_p157 (fu:Nat){K0:Int→Int→EL→ByteArray→Int→Int→Int→Int→Int→Prop}(L:EL→Nat)(hN:L=List.length){x0:ByteArray}{x1 x2 x3 x4 x5:Int}(h:p157 False fu K0 x0 x1 x2 x3 x4 x5):Den Try.prog G0 157 [.ptr [.c (.v (.string x0)),.c (.v (.int .i64 x1)),.c (.v (.int .i64 x2)),.c (.v (.int .i64 x3)),.c (.v (.int .i64 x4)),.c (.v (.int .i64 x5))]] (fun r bs=>(∃ (y0 y1:Int) (y2:EL) (y3:ByteArray) (y4 y5 y6 y7 y8:Int),(r=.agg [.c (.v (.int .i64 y0)),.c (.v (.int .i64 y1)),.c (.sl 3 y2 none)]∧bs=[.ptr [.c (.v (.string y3)),.c (.v (.int .i64 y4)),.c (.v (.int .i64 y5)),.c (.v (.int .i64 y6)),.c (.v (.int .i64 y7)),.c (.v (.int .i64 y8))]])∧K0 y0 y1 y2 y3 y4 y5 y6 y7 y8)):=by
 obtain⟨O,hO⟩:∃ O,O=std 1 T G0 (Den Try.prog G0):=⟨_,rfl⟩
 have hLO:L=O.len:=by rw [hN,hO];rfl
 subst hLO
 refine den_h hO tiA mixed tabOk (fn:=Try.f157) (sh:=true) (by kernel_rfl) rfl rfl rfl rfl ?_
 intro Q b
 unfold p157 at h
 conv=>cbv
 refine z0v hO tiA [[],[]] [(0,true,false),(1,true,false),(2,true,false),(3,true,false),(4,true,false),(5,true,false),(6,true,false),(7,true,false),(8,true,false),(9,true,false),(10,true,false),(11,true,false),(12,true,false),(13,true,false),(14,true,false),(15,true,false),(16,true,false),(17,true,false),(18,true,false),(19,true,true),(20,false,true),(21,true,true),(22,true,true)] (by kernel_rfl) [0,2,26] [0,3000] [] (fun tm m=>∃ (j1:Bool),((tm=frame 0 62 [(0,.p 0 0 0),(2,.p 3000 1 0),(26,.c (.v (.bool j1)))]∧m=⟨[(0,.blk 0 [.c (.v (.string x0)),.c (.v (.int .i64 x1)),.c (.v (.int .i64 x2)),.c (.v (.int .i64 x3)),.c (.v (.int .i64 x4)),.c (.v (.int .i64 x5))]),(3000,.blk 1 [.c (.v (.int .i64 0)),.c (.v (.int .i64 0)),.c (.sl 3 [] (some []))])],2⟩))∧p157_2 False fu K0 x0 x1 x2 x3 x4 x5 j1) (fun L hL_2=>?_) ?_
 conv=>cbv
 refine br_h hO h (by subst hO;rfl) (fun k3 h=>?_) (fun k3 h=>?_)
 conv=>cbv
 refine br_t hO k3 ?_
 conv=>cbv
 refine br_t hO k3 ?_
 conv=>cbv
 refine br_t hO k3 ?_
 conv=>cbv
 refine br_t hO k3 ?_
 conv=>cbv
 refine br_t hO k3 ?_
 conv=>cbv
 refine br_t hO k3 ?_
 conv=>cbv
 refine br_t hO k3 ?_
 conv=>cbv
 refine br_t hO k3 ?_
 conv=>cbv
 refine br_t hO k3 ?_
 conv=>cbv
 refine br_t hO k3 ?_
 conv=>cbv
 refine br_t hO k3 ?_
 conv=>cbv
 exact hL_2 _ _ ⟨true,⟨(by (conv=>lhs;cbv)<;>(subst hO;rfl)),(by (conv=>lhs;cbv)<;>(subst hO;rfl))⟩,h⟩
 conv=>cbv
 refine br_f hO k3 ?_
 conv=>cbv
 refine br_f hO k3 ?_
 conv=>cbv
 refine br_f hO k3 ?_
 conv=>cbv
 refine br_f hO k3 ?_
 conv=>cbv
 refine br_f hO k3 ?_
 conv=>cbv
 refine br_f hO k3 ?_
 conv=>cbv
 refine br_f hO k3 ?_
 conv=>cbv
 refine br_f hO k3 ?_
 conv=>cbv
 refine and_h h (fun g=>(by subst hO;exact g)) (fun h=>?_)
 refine and_h h (fun g=>(by subst hO;exact g)) (fun h=>?_)
 refine br_f hO k3 ?_
 conv=>cbv
 refine z0c hO [.shut] (d_p154 fu O.len hN h) ?_
 intro e Q a b
 conv=>cbv
 refine⟨by subst a hO;rfl,?_⟩
 intro r bs d
 rw [b] at d
 clear a b h
 obtain⟨y21,_,⟨rfl,rfl⟩,h⟩:=d
 conv=>cbv
 refine br_f hO k3 ?_
 conv=>cbv
 refine br_f hO k3 ?_
 conv=>cbv
 exact hL_2 _ _ ⟨(!y21),⟨(by (conv=>lhs;cbv)<;>(subst hO;rfl)),(by (conv=>lhs;cbv)<;>(subst hO;rfl))⟩,h⟩
 rintro tm m ⟨j1,hs,h⟩
 unfold p157_2 at h
 obtain⟨rfl,rfl⟩:=hs
 conv=>cbv
 refine br_h hO h (by subst hO;rfl) (fun k1 h=>?_) (fun k1 h=>?_)
 conv=>cbv
 refine z0c hO [.ref 6,.shut,.shut] (d_p147 fu O.len hN h) ?_
 intro e Q a b
 conv=>cbv
 refine⟨by subst a hO;rfl,?_⟩
 intro r bs d
 rw [b] at d
 clear a b h
 obtain⟨y2,y3,y4,y5,y6,y7,_,_,⟨rfl,rfl⟩,h⟩:=d
 conv=>cbv
 rw [b]
 exact⟨0,0,nilE,y2,y3,y4,y5,y6,y7,⟨(by subst hO;rfl),(by subst hO;rfl)⟩,h⟩
 conv=>cbv
 refine z0b hO ?_
 conv=>cbv
 refine z0h hO tiA [[]] [(0,true,false),(1,true,false),(2,true,false),(3,true,false),(4,true,false),(5,true,false),(6,true,false),(7,true,false),(8,true,false),(9,true,false),(10,true,false),(11,true,true)] (by kernel_rfl) ?_
 conv=>cbv
 refine and_h h (fun g=>(by subst hO;exact g)) (fun h=>?_)
 refine and_h h (fun g=>(by subst hO;exact g)) (fun h=>?_)
 refine z0b hO ?_
 conv=>cbv
 refine z0f hO tiA h (by subst hO;rfl) [0,2,3] [0,3000] [] (fun tm m=>∃ (j8:ByteArray) (j9:Int) (j10:Int) (j11:Int) (j12:Int) (j13:Int) (j14:Int),((tm=frame 0 62 [(0,.p 0 0 0),(2,.p 3000 1 0),(3,.c (.v (.int .i64 j14)))]∧m=⟨[(0,.blk 0 [.c (.v (.string j8)),.c (.v (.int .i64 j9)),.c (.v (.int .i64 j10)),.c (.v (.int .i64 j11)),.c (.v (.int .i64 j12)),.c (.v (.int .i64 j13))]),(3000,.blk 1 [.c (.v (.int .i64 0)),.c (.v (.int .i64 0)),.c (.sl 3 [] (some []))])],2⟩))∧p157_1 False fu K0 j8 j9 j10 j11 j12 j13 j14) (fun k2 h L hL_1=>?_) (fun k2 h L hL_1=>?_) ?_
 conv=>cbv
 refine z0c hO [.ref 6,.shut,.shut] (d_p147 fu O.len hN h) ?_
 intro e Q a b
 conv=>cbv
 refine⟨by subst a hO;rfl,?_⟩
 intro r bs d
 rw [b] at d
 clear a b h
 obtain⟨y15,y16,y17,y18,y19,y20,_,_,⟨rfl,rfl⟩,h⟩:=d
 conv=>cbv
 exact hL_1 _ _ ⟨y15,y16,y17,y18,y19,y20,IntKind.i64.wrap (z0d .sub .u8 ((List.getD x0.data.toList (x1:Int).toNat 0).toNat:Nat) 48),⟨(by (conv=>lhs;cbv)<;>(subst hO;rfl)),(by (conv=>lhs;cbv)<;>(subst hO;rfl))⟩,h⟩
 conv=>cbv
 exact hL_1 _ _ ⟨x0,x1,x2,x3,x4,x5,IntKind.i64.wrap (z0d .sub .u8 ((List.getD x0.data.toList (x1:Int).toNat 0).toNat:Nat) 48),⟨(by (conv=>lhs;cbv)<;>(subst hO;rfl)),(by (conv=>lhs;cbv)<;>(subst hO;rfl))⟩,h⟩
 rintro tm m ⟨j8,j9,j10,j11,j12,j13,j14,hs,h⟩
 unfold p157_1 at h
 obtain⟨rfl,rfl⟩:=hs
 conv=>cbv
 rw [b]
 exact⟨4,j14,nilE,j8,z0d .add .i64 j9 1,j10,j11,j12,j13,⟨(by subst hO;rfl),(by subst hO;rfl)⟩,h⟩
def D_p156 (fu:Nat):Prop:=∀ {K0:Int→Int→EL→ByteArray→Int→Int→Int→Int→Int→Prop} (L:EL→Nat) (_:L=List.length) {x0:ByteArray} {x1 x2 x3 x4 x5 x6:Int} (_:p156 False fu K0 x0 x1 x2 x3 x4 x5 x6),Den Try.prog G0 156 [.ptr [.c (.v (.string x0)),.c (.v (.int .i64 x1)),.c (.v (.int .i64 x2)),.c (.v (.int .i64 x3)),.c (.v (.int .i64 x4)),.c (.v (.int .i64 x5))],.c (.v (.int .i64 x6))] (fun r bs=>(∃ (y0 y1:Int) (y2:EL) (y3:ByteArray) (y4 y5 y6 y7 y8:Int) (o1:OV),(r=.agg [.c (.v (.int .i64 y0)),.c (.v (.int .i64 y1)),.c (.sl 3 y2 none)]∧bs=[.ptr [.c (.v (.string y3)),.c (.v (.int .i64 y4)),.c (.v (.int .i64 y5)),.c (.v (.int .i64 y6)),.c (.v (.int .i64 y7)),.c (.v (.int .i64 y8))],o1])∧K0 y0 y1 y2 y3 y4 y5 y6 y7 y8))
theorem b_p156 (fu:Nat)(ih_p156:D_p156 fu){K0:Int→Int→EL→ByteArray→Int→Int→Int→Int→Int→Prop}(L:EL→Nat)(hN:L=List.length){x0:ByteArray}{x1 x2 x3 x4 x5 x6:Int}(h:p156_b False fu (p156 False fu) K0 x0 x1 x2 x3 x4 x5 x6):Den Try.prog G0 156 [.ptr [.c (.v (.string x0)),.c (.v (.int .i64 x1)),.c (.v (.int .i64 x2)),.c (.v (.int .i64 x3)),.c (.v (.int .i64 x4)),.c (.v (.int .i64 x5))],.c (.v (.int .i64 x6))] (fun r bs=>(∃ (y0 y1:Int) (y2:EL) (y3:ByteArray) (y4 y5 y6 y7 y8:Int) (o1:OV),(r=.agg [.c (.v (.int .i64 y0)),.c (.v (.int .i64 y1)),.c (.sl 3 y2 none)]∧bs=[.ptr [.c (.v (.string y3)),.c (.v (.int .i64 y4)),.c (.v (.int .i64 y5)),.c (.v (.int .i64 y6)),.c (.v (.int .i64 y7)),.c (.v (.int .i64 y8))],o1])∧K0 y0 y1 y2 y3 y4 y5 y6 y7 y8)):=by
 obtain⟨O,hO⟩:∃ O,O=std 1 T G0 (Den Try.prog G0):=⟨_,rfl⟩
 have hLO:L=O.len:=by rw [hN,hO];rfl
 subst hLO
 refine den_h hO tiA mixed tabOk (fn:=Try.f156) (sh:=true) (by kernel_rfl) rfl rfl rfl rfl ?_
 intro Q b
 unfold p156_b at h
 conv=>cbv
 refine z0c hO [.ref 6] (d_p145 fu O.len hN h) ?_
 intro e Q a b
 conv=>cbv
 refine⟨by subst a hO;rfl,?_⟩
 intro r bs d
 rw [b] at d
 clear a b h
 obtain⟨y1,y2,y3,y4,y5,y6,y7,⟨rfl,rfl⟩,h⟩:=d
 conv=>cbv
 refine z0v hO tiA [[]] [(0,true,false),(1,true,false),(2,true,false),(3,true,false),(4,true,false),(5,true,false),(6,true,false),(7,true,false),(8,true,false),(9,true,true),(10,true,true),(11,true,true),(12,true,true),(13,true,true),(14,true,false),(15,true,false),(16,true,true),(17,true,true),(18,true,false),(19,true,false),(20,true,true),(21,true,true),(22,true,false),(23,true,false),(24,true,true),(25,true,true),(26,true,false),(27,true,false),(28,true,true),(29,true,true)] (by kernel_rfl) [0,1,4,5,40] [0,5000] [] (fun tm m=>∃ (j8:Bool),((tm=frame 0 120 [(0,.p 0 0 0),(1,.c (.v (.int .i64 x6))),(4,.p 5000 1 0),(5,.c (.v (.int .u8 y1))),(40,.c (.v (.bool j8)))]∧m=⟨[(0,.blk 0 [.c (.v (.string y2)),.c (.v (.int .i64 y3)),.c (.v (.int .i64 y4)),.c (.v (.int .i64 y5)),.c (.v (.int .i64 y6)),.c (.v (.int .i64 y7))]),(5000,.blk 1 [.c (.v (.int .i64 0)),.c (.v (.int .i64 0)),.c (.sl 3 [] (some []))])],2⟩))∧p156_4 False fu (p156 False fu) K0 x6 y1 y2 y3 y4 y5 y6 y7 j8) (fun L hL_4=>?_) ?_
 conv=>cbv
 refine br_h hO h (by subst hO;rfl) (fun k9 h=>?_) (fun k9 h=>?_)
 conv=>cbv
 refine br_t hO k9 ?_
 conv=>cbv
 refine br_t hO k9 ?_
 conv=>cbv
 refine br_t hO k9 ?_
 conv=>cbv
 refine br_t hO k9 ?_
 conv=>cbv
 refine br_t hO k9 ?_
 conv=>cbv
 refine br_t hO k9 ?_
 conv=>cbv
 refine br_t hO k9 ?_
 conv=>cbv
 refine br_t hO k9 ?_
 conv=>cbv
 refine br_t hO k9 ?_
 conv=>cbv
 refine br_t hO k9 ?_
 conv=>cbv
 exact hL_4 _ _ ⟨true,⟨(by (conv=>lhs;cbv)<;>(subst hO;rfl)),(by (conv=>lhs;cbv)<;>(subst hO;rfl))⟩,h⟩
 conv=>cbv
 refine br_f hO k9 ?_
 conv=>cbv
 refine br_f hO k9 ?_
 conv=>cbv
 refine br_h hO h (by subst hO;rfl) (fun k10 h=>?_) (fun k10 h=>?_)
 conv=>cbv
 refine br_t hO k10 ?_
 conv=>cbv
 refine br_f hO k9 ?_
 conv=>cbv
 refine br_t hO k10 ?_
 conv=>cbv
 refine br_f hO k9 ?_
 conv=>cbv
 refine br_h hO h (by subst hO;rfl) (fun k11 h=>?_) (fun k11 h=>?_)
 conv=>cbv
 refine br_t hO k11 ?_
 conv=>cbv
 refine br_f hO k9 ?_
 conv=>cbv
 refine br_t hO k11 ?_
 conv=>cbv
 refine br_f hO k9 ?_
 conv=>cbv
 refine br_h hO h (by subst hO;rfl) (fun k12 h=>?_) (fun k12 h=>?_)
 conv=>cbv
 refine br_t hO k12 ?_
 conv=>cbv
 refine br_f hO k9 ?_
 conv=>cbv
 refine br_t hO k12 ?_
 conv=>cbv
 refine br_f hO k9 ?_
 conv=>cbv
 refine br_h hO h (by subst hO;rfl) (fun k13 h=>?_) (fun k13 h=>?_)
 conv=>cbv
 refine br_t hO k13 ?_
 conv=>cbv
 refine br_f hO k9 ?_
 conv=>cbv
 refine br_t hO k13 ?_
 conv=>cbv
 refine br_f hO k9 ?_
 conv=>cbv
 exact hL_4 _ _ ⟨(z0a .neq y1 112),⟨(by (conv=>lhs;cbv)<;>(subst hO;rfl)),(by (conv=>lhs;cbv)<;>(subst hO;rfl))⟩,h⟩
 conv=>cbv
 refine br_f hO k13 ?_
 conv=>cbv
 refine br_f hO k9 ?_
 conv=>cbv
 refine br_f hO k13 ?_
 conv=>cbv
 refine br_f hO k9 ?_
 conv=>cbv
 exact hL_4 _ _ ⟨false,⟨(by (conv=>lhs;cbv)<;>(subst hO;rfl)),(by (conv=>lhs;cbv)<;>(subst hO;rfl))⟩,h⟩
 conv=>cbv
 refine br_f hO k12 ?_
 conv=>cbv
 refine br_f hO k9 ?_
 conv=>cbv
 refine br_f hO k12 ?_
 conv=>cbv
 refine br_f hO k9 ?_
 conv=>cbv
 refine br_f hO rfl ?_
 conv=>cbv
 refine br_f hO rfl ?_
 conv=>cbv
 refine br_f hO k9 ?_
 conv=>cbv
 refine br_f hO rfl ?_
 conv=>cbv
 refine br_f hO k9 ?_
 conv=>cbv
 exact hL_4 _ _ ⟨false,⟨(by (conv=>lhs;cbv)<;>(subst hO;rfl)),(by (conv=>lhs;cbv)<;>(subst hO;rfl))⟩,h⟩
 conv=>cbv
 refine br_f hO k11 ?_
 conv=>cbv
 refine br_f hO k9 ?_
 conv=>cbv
 refine br_f hO k11 ?_
 conv=>cbv
 refine br_f hO k9 ?_
 conv=>cbv
 refine br_f hO rfl ?_
 conv=>cbv
 refine br_f hO rfl ?_
 conv=>cbv
 refine br_f hO k9 ?_
 conv=>cbv
 refine br_f hO rfl ?_
 conv=>cbv
 refine br_f hO k9 ?_
 conv=>cbv
 refine br_f hO rfl ?_
 conv=>cbv
 refine br_f hO rfl ?_
 conv=>cbv
 refine br_f hO k9 ?_
 conv=>cbv
 refine br_f hO rfl ?_
 conv=>cbv
 refine br_f hO k9 ?_
 conv=>cbv
 exact hL_4 _ _ ⟨false,⟨(by (conv=>lhs;cbv)<;>(subst hO;rfl)),(by (conv=>lhs;cbv)<;>(subst hO;rfl))⟩,h⟩
 conv=>cbv
 refine br_f hO k10 ?_
 conv=>cbv
 refine br_f hO k9 ?_
 conv=>cbv
 refine br_f hO k10 ?_
 conv=>cbv
 refine br_f hO k9 ?_
 conv=>cbv
 refine br_f hO rfl ?_
 conv=>cbv
 refine br_f hO rfl ?_
 conv=>cbv
 refine br_f hO k9 ?_
 conv=>cbv
 refine br_f hO rfl ?_
 conv=>cbv
 refine br_f hO k9 ?_
 conv=>cbv
 refine br_f hO rfl ?_
 conv=>cbv
 refine br_f hO rfl ?_
 conv=>cbv
 refine br_f hO k9 ?_
 conv=>cbv
 refine br_f hO rfl ?_
 conv=>cbv
 refine br_f hO k9 ?_
 conv=>cbv
 refine br_f hO rfl ?_
 conv=>cbv
 refine br_f hO rfl ?_
 conv=>cbv
 refine br_f hO k9 ?_
 conv=>cbv
 refine br_f hO rfl ?_
 conv=>cbv
 refine br_f hO k9 ?_
 conv=>cbv
 exact hL_4 _ _ ⟨false,⟨(by (conv=>lhs;cbv)<;>(subst hO;rfl)),(by (conv=>lhs;cbv)<;>(subst hO;rfl))⟩,h⟩
 rintro tm m ⟨j8,hs,h⟩
 unfold p156_4 at h
 obtain⟨rfl,rfl⟩:=hs
 conv=>cbv
 refine br_h hO h (by subst hO;rfl) (fun k1 h=>?_) (fun k1 h=>?_)
 conv=>cbv
 refine z0c hO [.ref 6,.shut,.shut] (d_p147 fu O.len hN h) ?_
 intro e Q a b
 conv=>cbv
 refine⟨by subst a hO;rfl,?_⟩
 intro r bs d
 rw [b] at d
 clear a b h
 obtain⟨y9,y10,y11,y12,y13,y14,_,_,⟨rfl,rfl⟩,h⟩:=d
 conv=>cbv
 rw [b]
 exact⟨0,0,nilE,y9,y10,y11,y12,y13,y14,_,⟨(by subst hO;rfl),(by subst hO;rfl)⟩,h⟩
 conv=>cbv
 refine z0b hO ?_
 conv=>cbv
 refine z0f hO tiA h (by subst hO;rfl) [0,1,4,5] [0,5000] [] (fun tm m=>∃ (j15:ByteArray) (j16:Int) (j17:Int) (j18:Int) (j19:Int) (j20:Int),((tm=frame 0 120 [(0,.p 0 0 0),(1,.c (.v (.int .i64 x6))),(4,.p 5000 1 0),(5,.c (.v (.int .u8 y1)))]∧m=⟨[(0,.blk 0 [.c (.v (.string j15)),.c (.v (.int .i64 j16)),.c (.v (.int .i64 j17)),.c (.v (.int .i64 j18)),.c (.v (.int .i64 j19)),.c (.v (.int .i64 j20))]),(5000,.blk 1 [.c (.v (.int .i64 0)),.c (.v (.int .i64 0)),.c (.sl 3 [] (some []))])],2⟩))∧p156_3 False fu (p156 False fu) K0 x6 y1 j15 j16 j17 j18 j19 j20) (fun k8 h L hL_3=>?_) (fun k8 h L hL_3=>?_) ?_
 conv=>cbv
 refine z0c hO [.ref 6,.shut,.shut] (d_p147 fu O.len hN h) ?_
 intro e Q a b
 conv=>cbv
 refine⟨by subst a hO;rfl,?_⟩
 intro r bs d
 rw [b] at d
 clear a b h
 obtain⟨y72,y73,y74,y75,y76,y77,_,_,⟨rfl,rfl⟩,h⟩:=d
 conv=>cbv
 exact hL_3 _ _ ⟨y72,y73,y74,y75,y76,y77,⟨(by (conv=>lhs;cbv)<;>(subst hO;rfl)),(by (conv=>lhs;cbv)<;>(subst hO;rfl))⟩,h⟩
 conv=>cbv
 exact hL_3 _ _ ⟨y2,y3,y4,y5,y6,y7,⟨(by (conv=>lhs;cbv)<;>(subst hO;rfl)),(by (conv=>lhs;cbv)<;>(subst hO;rfl))⟩,h⟩
 rintro tm m ⟨j15,j16,j17,j18,j19,j20,hs,h⟩
 unfold p156_3 at h
 obtain⟨rfl,rfl⟩:=hs
 conv=>cbv
 refine z0f hO tiA h (by subst hO;rfl) [0,1,4,5] [0,5000] [] (fun tm m=>∃ (j21:ByteArray) (j22:Int) (j23:Int) (j24:Int) (j25:Int) (j26:Int),((tm=frame 0 120 [(0,.p 0 0 0),(1,.c (.v (.int .i64 x6))),(4,.p 5000 1 0),(5,.c (.v (.int .u8 y1)))]∧m=⟨[(0,.blk 0 [.c (.v (.string j21)),.c (.v (.int .i64 j22)),.c (.v (.int .i64 j23)),.c (.v (.int .i64 j24)),.c (.v (.int .i64 j25)),.c (.v (.int .i64 j26))]),(5000,.blk 1 [.c (.v (.int .i64 0)),.c (.v (.int .i64 0)),.c (.sl 3 [] (some []))])],2⟩))∧p156_2 False fu (p156 False fu) K0 x6 y1 j21 j22 j23 j24 j25 j26) (fun k7 h L hL_2=>?_) (fun k7 h L hL_2=>?_) ?_
 conv=>cbv
 refine z0c hO [.ref 6,.shut,.shut] (d_p147 fu O.len hN h) ?_
 intro e Q a b
 conv=>cbv
 refine⟨by subst a hO;rfl,?_⟩
 intro r bs d
 rw [b] at d
 clear a b h
 obtain⟨y66,y67,y68,y69,y70,y71,_,_,⟨rfl,rfl⟩,h⟩:=d
 conv=>cbv
 exact hL_2 _ _ ⟨y66,y67,y68,y69,y70,y71,⟨(by (conv=>lhs;cbv)<;>(subst hO;rfl)),(by (conv=>lhs;cbv)<;>(subst hO;rfl))⟩,h⟩
 conv=>cbv
 exact hL_2 _ _ ⟨j15,j16,j17,j18,j19,j20,⟨(by (conv=>lhs;cbv)<;>(subst hO;rfl)),(by (conv=>lhs;cbv)<;>(subst hO;rfl))⟩,h⟩
 rintro tm m ⟨j21,j22,j23,j24,j25,j26,hs,h⟩
 unfold p156_2 at h
 obtain⟨rfl,rfl⟩:=hs
 conv=>cbv
 refine br_h hO h (by subst hO;rfl) (fun k2 h=>?_) (fun k2 h=>?_)
 conv=>cbv
 rw [b]
 exact⟨0,0,nilE,j21,j22,j23,j24,j25,j26,_,⟨(by subst hO;rfl),(by subst hO;rfl)⟩,h⟩
 conv=>cbv
 refine z0b hO ?_
 conv=>cbv
 refine br_h hO h (by subst hO;rfl) (fun k3 h=>?_) (fun k3 h=>?_)
 conv=>cbv
 rw [b]
 exact⟨0,0,nilE,j21,z0d .add .i64 j22 1,j23,j24,j25,z0d .sub .i64 j26 1,_,⟨(by subst hO;rfl),(by subst hO;rfl)⟩,h⟩
 conv=>cbv
 refine br_h hO h (by subst hO;rfl) (fun k4 h=>?_) (fun k4 h=>?_)
 conv=>cbv
 refine z0c hO [.ref 6,.shut] (ih_p156 O.len hN h) ?_
 intro e Q a b
 conv=>cbv
 refine⟨by subst a hO;rfl,?_⟩
 intro r bs d
 rw [b] at d
 clear a b h
 obtain⟨y27,y28,y29,y30,y31,y32,y33,y34,y35,_,⟨rfl,rfl⟩,h⟩:=d
 conv=>cbv
 refine z0t hO h (fun g=>(by subst hO;exact g)) (fun h=>?_)
 conv=>cbv
 rw [b]
 exact⟨1,0,List.take 1 [[(CV.v (.int .i64 y27)),(CV.v (.int .i64 y28)),(CV.sl 3 y29 none)]],y30,y31,y32,y33,y34,y35,_,⟨(by subst hO;rfl),(by subst hO;rfl)⟩,h⟩
 conv=>cbv
 refine br_h hO h (by subst hO;rfl) (fun k5 h=>?_) (fun k5 h=>?_)
 conv=>cbv
 refine z0c hO [.ref 6] (d_p157 fu O.len hN h) ?_
 intro e Q a b
 conv=>cbv
 refine⟨by subst a hO;rfl,?_⟩
 intro r bs d
 rw [b] at d
 clear a b h
 obtain⟨y36,y37,y38,y39,y40,y41,y42,y43,y44,⟨rfl,rfl⟩,h⟩:=d
 conv=>cbv
 rw [b]
 exact⟨y36,y37,y38,y39,y40,y41,y42,y43,y44,_,⟨(by subst hO;rfl),(by subst hO;rfl)⟩,h⟩
 conv=>cbv
 refine z0b hO ?_
 conv=>cbv
 refine z0b hO ?_
 conv=>cbv
 refine z0b hO ?_
 conv=>cbv
 refine z0f hO tiA h (by subst hO;rfl) [0,1,4,6] [0,5000,7000] [] (fun tm m=>∃ (j45:Int) (j46:Int) (j47:Int),((tm=frame 0 120 [(0,.p 0 0 0),(1,.c (.v (.int .i64 x6))),(4,.p 5000 1 0),(6,.p 7000 1 0)]∧m=⟨[(0,.blk 0 [.c (.v (.string j21)),.c (.v (.int .i64 j45)),.c (.v (.int .i64 j23)),.c (.v (.int .i64 j24)),.c (.v (.int .i64 j25)),.c (.v (.int .i64 j46))]),(5000,.blk 1 [.c (.v (.int .i64 0)),.c (.v (.int .i64 0)),.c (.sl 3 [] (some []))]),(7000,.blk 1 [.c (.v (.int .i64 j47)),.c (.v (.int .i64 0)),.c (.sl 3 [] (some []))])],2⟩))∧p156_1 False fu (p156 False fu) K0 x6 j21 j23 j24 j25 j45 j46 j47) (fun k6 h L hL_1=>?_) (fun k6 h L hL_1=>?_) ?_
 conv=>cbv
 exact hL_1 _ _ ⟨z0d .add .i64 j22 1,z0d .sub .i64 j26 1,3,⟨(by (conv=>lhs;cbv)<;>(subst hO;rfl)),(by (conv=>lhs;cbv)<;>(subst hO;rfl))⟩,h⟩
 conv=>cbv
 exact hL_1 _ _ ⟨z0d .add .i64 j22 1,z0d .sub .i64 j26 1,2,⟨(by (conv=>lhs;cbv)<;>(subst hO;rfl)),(by (conv=>lhs;cbv)<;>(subst hO;rfl))⟩,h⟩
 rintro tm m ⟨j45,j46,j47,hs,h⟩
 unfold p156_1 at h
 obtain⟨rfl,rfl⟩:=hs
 conv=>cbv
 refine z0c hO [.ref 6,.shut] (ih_p156 O.len hN h) ?_
 intro e Q a b
 conv=>cbv
 refine⟨by subst a hO;rfl,?_⟩
 intro r bs d
 rw [b] at d
 clear a b h
 obtain⟨y48,y49,y50,y51,y52,y53,y54,y55,y56,_,⟨rfl,rfl⟩,h⟩:=d
 conv=>cbv
 refine z0c hO [.ref 6,.shut] (ih_p156 O.len hN h) ?_
 intro e Q a b
 conv=>cbv
 refine⟨by subst a hO;rfl,?_⟩
 intro r bs d
 rw [b] at d
 clear a b h
 obtain⟨y57,y58,y59,y60,y61,y62,y63,y64,y65,_,⟨rfl,rfl⟩,h⟩:=d
 conv=>cbv
 refine z0t hO h (fun g=>(by subst hO;exact g)) (fun h=>?_)
 conv=>cbv
 rw [b]
 exact⟨j47,0,List.take 2 [[(CV.v (.int .i64 y48)),(CV.v (.int .i64 y49)),(CV.sl 3 y50 none)],[(CV.v (.int .i64 y57)),(CV.v (.int .i64 y58)),(CV.sl 3 y59 none)]],y60,y61,y62,y63,y64,y65,_,⟨(by subst hO;rfl),(by subst hO;rfl)⟩,h⟩
theorem dd_p156 (fu:Nat):D_p156 fu:=by
 induction fu with
 | zero=>unfold D_p156;intros;rename_i h;rw [p156] at h;exact h.elim
 | succ n ih =>
  exact (by unfold D_p156;intro K0 L hN x0 x1 x2 x3 x4 x5 x6 h;exact b_p156 n ih L hN (by rw [p156] at h;exact h))
theorem d_p156 (fu:Nat):D_p156 fu:=dd_p156 fu
theorem d_p150 (fu:Nat){K0:Int→Int→EL→ByteArray→Int→Int→Int→Int→Int→Prop}(L:EL→Nat)(hN:L=List.length){x0:ByteArray}{x1 x2 x3 x4 x5:Int}(h:p150 False fu K0 x0 x1 x2 x3 x4 x5):Den Try.prog G0 150 [.ptr [.c (.v (.string x0)),.c (.v (.int .i64 x1)),.c (.v (.int .i64 x2)),.c (.v (.int .i64 x3)),.c (.v (.int .i64 x4)),.c (.v (.int .i64 x5))]] (fun r bs=>(∃ (y0 y1:Int) (y2:EL) (y3:ByteArray) (y4 y5 y6 y7 y8:Int),(r=.agg [.c (.v (.int .i64 y0)),.c (.v (.int .i64 y1)),.c (.sl 3 y2 none)]∧bs=[.ptr [.c (.v (.string y3)),.c (.v (.int .i64 y4)),.c (.v (.int .i64 y5)),.c (.v (.int .i64 y6)),.c (.v (.int .i64 y7)),.c (.v (.int .i64 y8))]])∧K0 y0 y1 y2 y3 y4 y5 y6 y7 y8)):=by
 obtain⟨O,hO⟩:∃ O,O=std 1 T G0 (Den Try.prog G0):=⟨_,rfl⟩
 have hLO:L=O.len:=by rw [hN,hO];rfl
 subst hLO
 refine den_h hO tiA mixed tabOk (fn:=Try.f150) (sh:=true) (by kernel_rfl) rfl rfl rfl rfl ?_
 intro Q b
 unfold p150 at h
 conv=>cbv
 refine z0c hO [.ref 6,.shut] (d_p156 fu O.len hN h) ?_
 intro e Q a b
 conv=>cbv
 refine⟨by subst a hO;rfl,?_⟩
 intro r bs d
 rw [b] at d
 clear a b h
 obtain⟨y1,y2,y3,y4,y5,y6,y7,y8,y9,_,⟨rfl,rfl⟩,h⟩:=d
 conv=>cbv
 rw [b]
 exact⟨y1,y2,y3,y4,y5,y6,y7,y8,y9,⟨(by subst hO;rfl),(by subst hO;rfl)⟩,h⟩
theorem d_p151 (fu:Nat){K0:ByteArray→Int→Int→Int→Int→Int→Prop}(L:EL→Nat)(hN:L=List.length){x0:ByteArray}{x1 x2 x3 x4 x5 x6:Int}(h:p151 False fu K0 x0 x1 x2 x3 x4 x5 x6):Den Try.prog G0 151 [.ptr [.c (.v (.string x0)),.c (.v (.int .i64 x1)),.c (.v (.int .i64 x2)),.c (.v (.int .i64 x3)),.c (.v (.int .i64 x4)),.c (.v (.int .i64 x5))],.c (.v (.int .u8 x6))] (fun r bs=>(∃ (y0:ByteArray) (y1 y2 y3 y4 y5:Int) (o1:OV),(r=.tup []∧bs=[.ptr [.c (.v (.string y0)),.c (.v (.int .i64 y1)),.c (.v (.int .i64 y2)),.c (.v (.int .i64 y3)),.c (.v (.int .i64 y4)),.c (.v (.int .i64 y5))],o1])∧K0 y0 y1 y2 y3 y4 y5)):=by
 obtain⟨O,hO⟩:∃ O,O=std 1 T G0 (Den Try.prog G0):=⟨_,rfl⟩
 have hLO:L=O.len:=by rw [hN,hO];rfl
 subst hLO
 refine den_h hO tiA mixed tabOk (fn:=Try.f151) (sh:=true) (by kernel_rfl) rfl rfl rfl rfl ?_
 intro Q b
 unfold p151 at h
 conv=>cbv
 refine z0v hO tiA [[0],[]] [(0,true,false),(2,true,false),(1,false,false),(3,true,false),(4,true,false),(5,true,false),(6,true,false),(7,true,false),(8,true,false),(9,true,false),(10,true,false),(11,true,false),(12,true,false),(13,true,false),(14,true,true),(15,true,true)] (by kernel_rfl) [0,19] [0] [] (fun tm m=>∃ (j1:ByteArray) (j2:Int) (j3:Int) (j4:Int) (j5:Int) (j6:Int) (j7:Bool),((tm=frame 0 39 [(0,.p 0 0 0),(19,.c (.v (.bool j7)))]∧m=⟨[(0,.blk 0 [.c (.v (.string j1)),.c (.v (.int .i64 j2)),.c (.v (.int .i64 j3)),.c (.v (.int .i64 j4)),.c (.v (.int .i64 j5)),.c (.v (.int .i64 j6))])],2⟩))∧p151_1 False fu K0 j1 j2 j3 j4 j5 j6 j7) (fun L hL_1=>?_) ?_
 conv=>cbv
 refine z0c hO [.ref 6] (d_p145 fu O.len hN h) ?_
 intro e Q a b
 conv=>cbv
 refine⟨by subst a hO;rfl,?_⟩
 intro r bs d
 rw [b] at d
 clear a b h
 obtain⟨y14,y15,y16,y17,y18,y19,y20,⟨rfl,rfl⟩,h⟩:=d
 conv=>cbv
 refine agr hO rfl rfl ?_
 refine br_h hO h (by subst hO;rfl) (fun k2 h=>?_) (fun k2 h=>?_)
 conv=>cbv
 refine br_t hO k2 ?_
 conv=>cbv
 refine br_t hO k2 ?_
 conv=>cbv
 refine br_t hO k2 ?_
 conv=>cbv
 refine br_t hO k2 ?_
 conv=>cbv
 refine br_t hO k2 ?_
 conv=>cbv
 refine br_t hO k2 ?_
 conv=>cbv
 refine br_t hO k2 ?_
 conv=>cbv
 refine br_t hO k2 ?_
 conv=>cbv
 refine br_t hO k2 ?_
 conv=>cbv
 refine br_t hO k2 ?_
 conv=>cbv
 exact hL_1 _ _ ⟨y15,y16,y17,y18,y19,y20,true,⟨(by (conv=>lhs;cbv)<;>(subst hO;rfl)),(by (conv=>lhs;cbv)<;>(subst hO;rfl))⟩,h⟩
 conv=>cbv
 refine br_f hO k2 ?_
 conv=>cbv
 refine br_f hO k2 ?_
 conv=>cbv
 refine br_f hO k2 ?_
 conv=>cbv
 refine br_f hO k2 ?_
 conv=>cbv
 refine br_f hO k2 ?_
 conv=>cbv
 refine br_f hO k2 ?_
 conv=>cbv
 refine br_f hO k2 ?_
 conv=>cbv
 refine br_f hO k2 ?_
 conv=>cbv
 refine br_f hO k2 ?_
 conv=>cbv
 refine br_f hO k2 ?_
 conv=>cbv
 exact hL_1 _ _ ⟨y15,y16,y17,y18,y19,y20,(z0a .geq y16 ((y15.size:Nat):Int)),⟨(by (conv=>lhs;cbv)<;>(subst hO;rfl)),(by (conv=>lhs;cbv)<;>(subst hO;rfl))⟩,h⟩
 rintro tm m ⟨j1,j2,j3,j4,j5,j6,j7,hs,h⟩
 unfold p151_1 at h
 obtain⟨rfl,rfl⟩:=hs
 conv=>cbv
 refine br_h hO h (by subst hO;rfl) (fun k1 h=>?_) (fun k1 h=>?_)
 conv=>cbv
 refine z0h hO tiA [[],[]] [(0,true,false),(1,true,false),(2,true,false),(3,true,false),(4,true,false),(5,true,false),(6,true,false),(7,true,false),(8,true,false),(9,true,false),(10,true,true),(11,false,true)] (by kernel_rfl) ?_
 conv=>cbv
 refine z0c hO [.ref 6,.shut,.shut] (d_p147 fu O.len hN h) ?_
 intro e Q a b
 conv=>cbv
 refine⟨by subst a hO;rfl,?_⟩
 intro r bs d
 rw [b] at d
 clear a b h
 obtain⟨y8,y9,y10,y11,y12,y13,_,_,⟨rfl,rfl⟩,h⟩:=d
 conv=>cbv
 refine z0b hO ?_
 conv=>cbv
 rw [b]
 exact⟨y8,y9,y10,y11,y12,y13,_,⟨(by subst hO;rfl),(by subst hO;rfl)⟩,h⟩
 conv=>cbv
 refine z0b hO ?_
 conv=>cbv
 rw [b]
 exact⟨j1,z0d .add .i64 j2 1,j3,j4,j5,j6,_,⟨(by subst hO;rfl),(by subst hO;rfl)⟩,h⟩
theorem d_p148 (fu:Nat){K0:Int→Int→ByteArray→EL→EL→ByteArray→Int→Int→Int→Int→Int→Prop}(L:EL→Nat)(hN:L=List.length){x0:ByteArray}{x1 x2 x3 x4 x5:Int}(h:p148 False fu K0 x0 x1 x2 x3 x4 x5):Den Try.prog G0 148 [.ptr [.c (.v (.string x0)),.c (.v (.int .i64 x1)),.c (.v (.int .i64 x2)),.c (.v (.int .i64 x3)),.c (.v (.int .i64 x4)),.c (.v (.int .i64 x5))]] (fun r bs=>(∃ (y0 y1:Int) (y2:ByteArray) (y3 y4:EL) (y5:ByteArray) (y6 y7 y8 y9 y10:Int),(r=.agg [.c (.v (.int .i64 y0)),.c (.v (.int .i64 y1)),.c (.v (.string y2)),.c (.sl 3 y3 none),.c (.sl 5 y4 none)]∧bs=[.ptr [.c (.v (.string y5)),.c (.v (.int .i64 y6)),.c (.v (.int .i64 y7)),.c (.v (.int .i64 y8)),.c (.v (.int .i64 y9)),.c (.v (.int .i64 y10))]])∧K0 y0 y1 y2 y3 y4 y5 y6 y7 y8 y9 y10)):=by
 obtain⟨O,hO⟩:∃ O,O=std 1 T G0 (Den Try.prog G0):=⟨_,rfl⟩
 have hLO:L=O.len:=by rw [hN,hO];rfl
 subst hLO
 refine den_h hO tiA mixed tabOk (fn:=Try.f148) (sh:=true) (by kernel_rfl) rfl rfl rfl rfl ?_
 intro Q b
 unfold p148 at h
 conv=>cbv
 refine z0h hO tiA [[],[]] [(0,true,false),(1,true,false),(2,true,false),(3,true,false),(4,true,false),(5,true,false),(6,true,false),(7,true,false),(8,true,false),(9,false,true),(10,true,true)] (by kernel_rfl) ?_
 conv=>cbv
 refine and_h h (fun g=>(by subst hO;exact g)) (fun h=>?_)
 refine and_h h (fun g=>(by subst hO;exact g)) (fun h=>?_)
 refine and_h h (fun g=>(by subst hO;exact g)) (fun h=>?_)
 refine z0c hO [.shut] (d_p153 fu O.len hN h) ?_
 intro e Q a b
 conv=>cbv
 refine⟨by subst a hO;rfl,?_⟩
 intro r bs d
 rw [b] at d
 clear a b h
 obtain⟨y1,_,⟨rfl,rfl⟩,h⟩:=d
 conv=>cbv
 refine z0b hO ?_
 conv=>cbv
 refine br_h hO h (by subst hO;rfl) (fun k1 h=>?_) (fun k1 h=>?_)
 conv=>cbv
 refine z0c hO [.ref 6,.shut,.shut] (d_p147 fu O.len hN h) ?_
 intro e Q a b
 conv=>cbv
 refine⟨by subst a hO;rfl,?_⟩
 intro r bs d
 rw [b] at d
 clear a b h
 obtain⟨y2,y3,y4,y5,y6,y7,_,_,⟨rfl,rfl⟩,h⟩:=d
 conv=>cbv
 rw [b]
 exact⟨0,0,⟨#[]⟩,nilE,nilE,y2,y3,y4,y5,y6,y7,⟨(by subst hO;rfl),(by subst hO;rfl)⟩,h⟩
 conv=>cbv
 refine z0b hO ?_
 conv=>cbv
 refine z0h hO tiA [[],[],[]] [(0,true,false),(1,true,false),(2,true,false),(3,true,false),(4,true,false),(5,true,false),(6,true,false),(7,true,false),(8,true,false),(9,true,false),(10,true,false),(11,true,false),(12,true,false),(13,true,false),(14,true,false),(15,true,true),(16,false,false),(17,false,true)] (by kernel_rfl) ?_
 conv=>cbv
 refine and_h h (fun g=>(by subst hO;exact g)) (fun h=>?_)
 refine and_h h (fun g=>(by subst hO;exact g)) (fun h=>?_)
 refine and_h h (fun g=>(by subst hO;exact g)) (fun h=>?_)
 refine agr hO rfl rfl ?_
 refine z0b hO ?_
 conv=>cbv
 refine z0c hO [.ref 6] (d_p145 fu O.len hN h) ?_
 intro e Q a b
 conv=>cbv
 refine⟨by subst a hO;rfl,?_⟩
 intro r bs d
 rw [b] at d
 clear a b h
 obtain⟨y8,y9,y10,y11,y12,y13,y14,⟨rfl,rfl⟩,h⟩:=d
 conv=>cbv
 refine br_h hO h (by subst hO;rfl) (fun k2 h=>?_) (fun k2 h=>?_)
 conv=>cbv
 rw [b]
 exact⟨2,0,(x0.extract (x1:Int).toNat (z0d .add .i64 x1 y1:Int).toNat),nilE,nilE,y9,y10,y11,y12,y13,y14,⟨(by subst hO;rfl),(by subst hO;rfl)⟩,h⟩
 conv=>cbv
 refine z0b hO ?_
 conv=>cbv
 refine z0r hO tiA [0,2,4] [0,3000,5000,117000] [] (fun (n:Nat) tm m=>∃ (z15:ByteArray) (z16:Int) (z17:Int) (z18:Int) (z19:Int) (z20:Int) (z21:ByteArray) (z22:EL),((z22=[]∧tm=frame 0 131 [(0,.p 0 0 0),(2,.p 3000 1 0),(4,.p 5000 1 0)]∧m=⟨[(0,.blk 0 [.c (.v (.string z15)),.c (.v (.int .i64 z16)),.c (.v (.int .i64 z17)),.c (.v (.int .i64 z18)),.c (.v (.int .i64 z19)),.c (.v (.int .i64 z20))]),(3000,.blk 1 [.c (.v (.int .i64 0)),.c (.v (.int .i64 0)),.c (.v (.string ⟨#[]⟩)),.c (.sl 3 [] (some [])),.c (.sl 5 [] (some []))]),(5000,.blk 1 [.c (.v (.int .i64 2)),.c (.v (.int .i64 0)),.c (.v (.string z21)),.c (.sl 3 [] (some [])),.c (.sl 5 [] (some []))])],2⟩)∨(tm=frame 0 131 [(0,.p 0 0 0),(2,.p 3000 1 0),(4,.p 5000 1 0)]∧m=⟨[(0,.blk 0 [.c (.v (.string z15)),.c (.v (.int .i64 z16)),.c (.v (.int .i64 z17)),.c (.v (.int .i64 z18)),.c (.v (.int .i64 z19)),.c (.v (.int .i64 z20))]),(3000,.blk 1 [.c (.v (.int .i64 0)),.c (.v (.int .i64 0)),.c (.v (.string ⟨#[]⟩)),.c (.sl 3 [] (some [])),.c (.sl 5 [] (some []))]),(5000,.blk 1 [.c (.v (.int .i64 2)),.c (.v (.int .i64 0)),.c (.v (.string z21)),.t 117000 1 (O.len z22),.c (.sl 5 [] (some []))]),(117000,.arr 1 3 z22 none false)],2⟩))∧p148_4L False fu K0 n z15 z16 z17 z18 z19 z20 z21 z22) (fun n=>n) fu ⟨y9,z0d .add .i64 y10 1,y11,y12,y13,y14,(x0.extract (x1:Int).toNat (z0d .add .i64 x1 y1:Int).toNat),nilE,(.inl ⟨rfl,(by (conv=>lhs;cbv)<;>(subst hO;rfl)),(by (conv=>lhs;cbv)<;>(subst hO;rfl))⟩),h⟩ ?_
 rintro n1 tm m L ⟨z15,z16,z17,z18,z19,z20,z21,z22,hs,h⟩ hLn1
 (cases n1 with
 | zero=>rw [p148_4L] at h;exact h.elim
 | succ n1 =>
 rw [p148_4L] at h
 unfold p148_4 at h
 rcases hs with hs | hs
 obtain⟨rfl,rfl,rfl⟩:=hs
 conv=>cbv
 refine z0f hO tiA h (by subst hO;rfl) [0,2,4] [0,3000,5000] [] (fun tm m=>∃ (j23:ByteArray) (j24:Int) (j25:Int) (j26:Int) (j27:Int) (j28:Int),((tm=frame 0 131 [(0,.p 0 0 0),(2,.p 3000 1 0),(4,.p 5000 1 0)]∧m=⟨[(0,.blk 0 [.c (.v (.string j23)),.c (.v (.int .i64 j24)),.c (.v (.int .i64 j25)),.c (.v (.int .i64 j26)),.c (.v (.int .i64 j27)),.c (.v (.int .i64 j28))]),(3000,.blk 1 [.c (.v (.int .i64 0)),.c (.v (.int .i64 0)),.c (.v (.string ⟨#[]⟩)),.c (.sl 3 [] (some [])),.c (.sl 5 [] (some []))]),(5000,.blk 1 [.c (.v (.int .i64 2)),.c (.v (.int .i64 0)),.c (.v (.string z21)),.c (.sl 3 [] (some [])),.c (.sl 5 [] (some []))])],2⟩))∧p148_1 False fu K0 (p148_4L False fu K0 n1) z21 nilE j23 j24 j25 j26 j27 j28) (fun k5 h L hL_1=>?_) (fun k5 h L hL_1=>?_) ?_
 conv=>cbv
 refine z0c hO [.ref 6] (d_p145 fu O.len hN h) ?_
 intro e Q a b
 conv=>cbv
 refine⟨by subst a hO;rfl,?_⟩
 intro r bs d
 rw [b] at d
 clear a b h
 obtain⟨y51,y52,y53,y54,y55,y56,y57,⟨rfl,rfl⟩,h⟩:=d
 conv=>cbv
 refine z0v hO tiA [[]] [(0,true,false),(1,true,false),(2,true,false),(3,true,false),(4,true,false),(5,true,false),(6,true,false),(7,true,false),(8,true,false),(9,true,true),(10,true,true),(11,true,true),(12,true,true),(13,true,true),(14,true,false),(15,true,false),(16,true,true),(17,true,true),(18,true,false),(19,true,false),(20,true,true),(21,true,true),(22,true,false),(23,true,false),(24,true,true),(25,true,true),(26,true,false),(27,true,false),(28,true,true),(29,true,true)] (by kernel_rfl) [0,2,4,97] [0,3000,5000] [] (fun tm m=>∃ (j58:Bool),((tm=frame 0 131 [(0,.p 0 0 0),(2,.p 3000 1 0),(4,.p 5000 1 0),(97,.c (.v (.bool j58)))]∧m=⟨[(0,.blk 0 [.c (.v (.string y52)),.c (.v (.int .i64 y53)),.c (.v (.int .i64 y54)),.c (.v (.int .i64 y55)),.c (.v (.int .i64 y56)),.c (.v (.int .i64 y57))]),(3000,.blk 1 [.c (.v (.int .i64 0)),.c (.v (.int .i64 0)),.c (.v (.string ⟨#[]⟩)),.c (.sl 3 [] (some [])),.c (.sl 5 [] (some []))]),(5000,.blk 1 [.c (.v (.int .i64 2)),.c (.v (.int .i64 0)),.c (.v (.string z21)),.c (.sl 3 [] (some [])),.c (.sl 5 [] (some []))])],2⟩))∧p148_3 False fu K0 (p148_4L False fu K0 n1) z21 nilE y52 y53 y54 y55 y56 y57 j58) (fun L hL_3=>?_) ?_
 conv=>cbv
 refine br_h hO h (by subst hO;rfl) (fun k7 h=>?_) (fun k7 h=>?_)
 conv=>cbv
 refine br_t hO k7 ?_
 conv=>cbv
 refine br_t hO k7 ?_
 conv=>cbv
 refine br_h hO h (by subst hO;rfl) (fun k8 h=>?_) (fun k8 h=>?_)
 conv=>cbv
 refine br_t hO k8 ?_
 conv=>cbv
 refine br_t hO k7 ?_
 conv=>cbv
 refine br_t hO k8 ?_
 conv=>cbv
 refine br_t hO k7 ?_
 conv=>cbv
 refine br_t hO rfl ?_
 conv=>cbv
 refine br_t hO rfl ?_
 conv=>cbv
 refine br_t hO k7 ?_
 conv=>cbv
 refine br_t hO rfl ?_
 conv=>cbv
 refine br_t hO k7 ?_
 conv=>cbv
 refine br_t hO rfl ?_
 conv=>cbv
 refine br_t hO rfl ?_
 conv=>cbv
 refine br_t hO k7 ?_
 conv=>cbv
 refine br_t hO rfl ?_
 conv=>cbv
 refine br_t hO k7 ?_
 conv=>cbv
 refine br_t hO rfl ?_
 conv=>cbv
 refine br_t hO rfl ?_
 conv=>cbv
 refine br_t hO k7 ?_
 conv=>cbv
 refine br_t hO rfl ?_
 conv=>cbv
 refine br_t hO k7 ?_
 conv=>cbv
 exact hL_3 _ _ ⟨true,⟨(by (conv=>lhs;cbv)<;>(subst hO;rfl)),(by (conv=>lhs;cbv)<;>(subst hO;rfl))⟩,h⟩
 conv=>cbv
 refine br_f hO k8 ?_
 conv=>cbv
 refine br_t hO k7 ?_
 conv=>cbv
 refine br_f hO k8 ?_
 conv=>cbv
 refine br_t hO k7 ?_
 conv=>cbv
 refine br_h hO h (by subst hO;rfl) (fun k9 h=>?_) (fun k9 h=>?_)
 conv=>cbv
 refine br_t hO k9 ?_
 conv=>cbv
 refine br_t hO k7 ?_
 conv=>cbv
 refine br_t hO k9 ?_
 conv=>cbv
 refine br_t hO k7 ?_
 conv=>cbv
 refine br_t hO rfl ?_
 conv=>cbv
 refine br_t hO rfl ?_
 conv=>cbv
 refine br_t hO k7 ?_
 conv=>cbv
 refine br_t hO rfl ?_
 conv=>cbv
 refine br_t hO k7 ?_
 conv=>cbv
 refine br_t hO rfl ?_
 conv=>cbv
 refine br_t hO rfl ?_
 conv=>cbv
 refine br_t hO k7 ?_
 conv=>cbv
 refine br_t hO rfl ?_
 conv=>cbv
 refine br_t hO k7 ?_
 conv=>cbv
 exact hL_3 _ _ ⟨true,⟨(by (conv=>lhs;cbv)<;>(subst hO;rfl)),(by (conv=>lhs;cbv)<;>(subst hO;rfl))⟩,h⟩
 conv=>cbv
 refine br_f hO k9 ?_
 conv=>cbv
 refine br_t hO k7 ?_
 conv=>cbv
 refine br_f hO k9 ?_
 conv=>cbv
 refine br_t hO k7 ?_
 conv=>cbv
 refine br_h hO h (by subst hO;rfl) (fun k10 h=>?_) (fun k10 h=>?_)
 conv=>cbv
 refine br_t hO k10 ?_
 conv=>cbv
 refine br_t hO k7 ?_
 conv=>cbv
 refine br_t hO k10 ?_
 conv=>cbv
 refine br_t hO k7 ?_
 conv=>cbv
 refine br_t hO rfl ?_
 conv=>cbv
 refine br_t hO rfl ?_
 conv=>cbv
 refine br_t hO k7 ?_
 conv=>cbv
 refine br_t hO rfl ?_
 conv=>cbv
 refine br_t hO k7 ?_
 conv=>cbv
 exact hL_3 _ _ ⟨true,⟨(by (conv=>lhs;cbv)<;>(subst hO;rfl)),(by (conv=>lhs;cbv)<;>(subst hO;rfl))⟩,h⟩
 conv=>cbv
 refine br_f hO k10 ?_
 conv=>cbv
 refine br_t hO k7 ?_
 conv=>cbv
 refine br_f hO k10 ?_
 conv=>cbv
 refine br_t hO k7 ?_
 conv=>cbv
 refine br_h hO h (by subst hO;rfl) (fun k11 h=>?_) (fun k11 h=>?_)
 conv=>cbv
 refine br_t hO k11 ?_
 conv=>cbv
 refine br_t hO k7 ?_
 conv=>cbv
 refine br_t hO k11 ?_
 conv=>cbv
 refine br_t hO k7 ?_
 conv=>cbv
 exact hL_3 _ _ ⟨true,⟨(by (conv=>lhs;cbv)<;>(subst hO;rfl)),(by (conv=>lhs;cbv)<;>(subst hO;rfl))⟩,h⟩
 conv=>cbv
 refine br_f hO k11 ?_
 conv=>cbv
 refine br_t hO k7 ?_
 conv=>cbv
 refine br_f hO k11 ?_
 conv=>cbv
 refine br_t hO k7 ?_
 conv=>cbv
 exact hL_3 _ _ ⟨(z0a .eql y51 112),⟨(by (conv=>lhs;cbv)<;>(subst hO;rfl)),(by (conv=>lhs;cbv)<;>(subst hO;rfl))⟩,h⟩
 conv=>cbv
 refine br_f hO k7 ?_
 conv=>cbv
 refine br_f hO k7 ?_
 conv=>cbv
 refine br_f hO k7 ?_
 conv=>cbv
 refine br_f hO k7 ?_
 conv=>cbv
 refine br_f hO k7 ?_
 conv=>cbv
 refine br_f hO k7 ?_
 conv=>cbv
 refine br_f hO k7 ?_
 conv=>cbv
 refine br_f hO k7 ?_
 conv=>cbv
 refine br_f hO k7 ?_
 conv=>cbv
 refine br_f hO k7 ?_
 conv=>cbv
 exact hL_3 _ _ ⟨false,⟨(by (conv=>lhs;cbv)<;>(subst hO;rfl)),(by (conv=>lhs;cbv)<;>(subst hO;rfl))⟩,h⟩
 rintro tm m ⟨j58,hs,h⟩
 unfold p148_3 at h
 obtain⟨rfl,rfl⟩:=hs
 conv=>cbv
 refine z0f hO tiA h (by subst hO;rfl) [0,2,4] [0,3000,5000] [] (fun tm m=>∃ (j59:ByteArray) (j60:Int) (j61:Int) (j62:Int) (j63:Int) (j64:Int),((tm=frame 0 131 [(0,.p 0 0 0),(2,.p 3000 1 0),(4,.p 5000 1 0)]∧m=⟨[(0,.blk 0 [.c (.v (.string j59)),.c (.v (.int .i64 j60)),.c (.v (.int .i64 j61)),.c (.v (.int .i64 j62)),.c (.v (.int .i64 j63)),.c (.v (.int .i64 j64))]),(3000,.blk 1 [.c (.v (.int .i64 0)),.c (.v (.int .i64 0)),.c (.v (.string ⟨#[]⟩)),.c (.sl 3 [] (some [])),.c (.sl 5 [] (some []))]),(5000,.blk 1 [.c (.v (.int .i64 2)),.c (.v (.int .i64 0)),.c (.v (.string z21)),.c (.sl 3 [] (some [])),.c (.sl 5 [] (some []))])],2⟩))∧p148_2 False fu K0 (p148_4L False fu K0 n1) z21 nilE j59 j60 j61 j62 j63 j64) (fun k6 h L hL_2=>?_) (fun k6 h L hL_2=>?_) ?_
 conv=>cbv
 refine z0c hO [.ref 6,.shut,.shut] (d_p147 fu O.len hN h) ?_
 intro e Q a b
 conv=>cbv
 refine⟨by subst a hO;rfl,?_⟩
 intro r bs d
 rw [b] at d
 clear a b h
 obtain⟨y65,y66,y67,y68,y69,y70,_,_,⟨rfl,rfl⟩,h⟩:=d
 conv=>cbv
 exact hL_2 _ _ ⟨y65,y66,y67,y68,y69,y70,⟨(by (conv=>lhs;cbv)<;>(subst hO;rfl)),(by (conv=>lhs;cbv)<;>(subst hO;rfl))⟩,h⟩
 conv=>cbv
 exact hL_2 _ _ ⟨y52,y53,y54,y55,y56,y57,⟨(by (conv=>lhs;cbv)<;>(subst hO;rfl)),(by (conv=>lhs;cbv)<;>(subst hO;rfl))⟩,h⟩
 rintro tm m ⟨j59,j60,j61,j62,j63,j64,hs,h⟩
 unfold p148_2 at h
 obtain⟨rfl,rfl⟩:=hs
 conv=>cbv
 exact hL_1 _ _ ⟨j59,j60,j61,j62,j63,j64,⟨(by (conv=>lhs;cbv)<;>(subst hO;rfl)),(by (conv=>lhs;cbv)<;>(subst hO;rfl))⟩,h⟩
 conv=>cbv
 exact hL_1 _ _ ⟨z15,z16,z17,z18,z19,z20,⟨(by (conv=>lhs;cbv)<;>(subst hO;rfl)),(by (conv=>lhs;cbv)<;>(subst hO;rfl))⟩,h⟩
 rintro tm m ⟨j23,j24,j25,j26,j27,j28,hs,h⟩
 unfold p148_1 at h
 obtain⟨rfl,rfl⟩:=hs
 conv=>cbv
 refine z0c hO [.ref 6] (d_p150 fu O.len hN h) ?_
 intro e Q a b
 conv=>cbv
 refine⟨by subst a hO;rfl,?_⟩
 intro r bs d
 rw [b] at d
 clear a b h
 obtain⟨y29,y30,y31,y32,y33,y34,y35,y36,y37,⟨rfl,rfl⟩,h⟩:=d
 conv=>cbv
 refine br_h hO h (by subst hO;rfl) (fun k3 h=>?_) (fun k3 h=>?_)
 conv=>cbv
 rw [b]
 exact⟨2,0,z21,nilE,nilE,y32,y33,y34,y35,y36,y37,⟨(by subst hO;rfl),(by subst hO;rfl)⟩,h⟩
 conv=>cbv
 refine z0b hO ?_
 conv=>cbv
 refine z0t hO h (fun g=>(by subst hO;exact g)) (fun h=>?_)
 conv=>cbv
 refine and_h h (fun g=>(by subst hO;exact g)) (fun h=>?_)
 refine z4g hO (by subst hO;exact List.cons_ne_nil _ _) ?_
 conv=>cbv
 refine z0c hO [.ref 6] (d_p145 fu O.len hN h) ?_
 intro e Q a b
 conv=>cbv
 refine⟨by subst a hO;rfl,?_⟩
 intro r bs d
 rw [b] at d
 clear a b h
 obtain⟨y38,y39,y40,y41,y42,y43,y44,⟨rfl,rfl⟩,h⟩:=d
 conv=>cbv
 refine br_h hO h (by subst hO;rfl) (fun k4 h=>?_) (fun k4 h=>?_)
 conv=>cbv
 refine z0c hO [.ref 6,.shut] (d_p151 fu O.len hN h) ?_
 intro e Q a b
 conv=>cbv
 refine⟨by subst a hO;rfl,?_⟩
 intro r bs d
 rw [b] at d
 clear a b h
 obtain⟨y45,y46,y47,y48,y49,y50,_,⟨rfl,rfl⟩,h⟩:=d
 conv=>cbv
 refine z0o hO ?_
 conv=>cbv
 rw [b]
 exact⟨2,0,z21,(nilE++(List.take 1 [[(CV.v (.int .i64 y29)),(CV.v (.int .i64 y30)),(CV.sl 3 y31 none)]])),nilE,y45,y46,y47,y48,y49,y50,⟨(by subst hO;rfl),(by subst hO;rfl)⟩,h⟩
 conv=>cbv
 refine z0b hO ?_
 conv=>cbv
 exact hLn1 n1 _ _ (Nat.lt_succ_self n1) ⟨y39,z0d .add .i64 y40 1,y41,y42,y43,y44,z21,(nilE++(List.take 1 [[(CV.v (.int .i64 y29)),(CV.v (.int .i64 y30)),(CV.sl 3 y31 none)]])),(.inr ⟨(by (conv=>lhs;cbv)<;>(subst hO;rfl)),(by (conv=>lhs;cbv)<;>(subst hO;rfl))⟩),h⟩
 obtain⟨rfl,rfl⟩:=hs
 conv=>cbv
 refine z0f hO tiA h (by subst hO;rfl) [0,2,4] [0,3000,5000,117000] [] (fun tm m=>∃ (j23:ByteArray) (j24:Int) (j25:Int) (j26:Int) (j27:Int) (j28:Int),((tm=frame 0 131 [(0,.p 0 0 0),(2,.p 3000 1 0),(4,.p 5000 1 0)]∧m=⟨[(0,.blk 0 [.c (.v (.string j23)),.c (.v (.int .i64 j24)),.c (.v (.int .i64 j25)),.c (.v (.int .i64 j26)),.c (.v (.int .i64 j27)),.c (.v (.int .i64 j28))]),(3000,.blk 1 [.c (.v (.int .i64 0)),.c (.v (.int .i64 0)),.c (.v (.string ⟨#[]⟩)),.c (.sl 3 [] (some [])),.c (.sl 5 [] (some []))]),(5000,.blk 1 [.c (.v (.int .i64 2)),.c (.v (.int .i64 0)),.c (.v (.string z21)),.t 117000 1 (O.len z22),.c (.sl 5 [] (some []))]),(117000,.arr 1 3 z22 none false)],2⟩))∧p148_1 False fu K0 (p148_4L False fu K0 n1) z21 z22 j23 j24 j25 j26 j27 j28) (fun k5 h L hL_1=>?_) (fun k5 h L hL_1=>?_) ?_
 conv=>cbv
 refine z0c hO [.ref 6] (d_p145 fu O.len hN h) ?_
 intro e Q a b
 conv=>cbv
 refine⟨by subst a hO;rfl,?_⟩
 intro r bs d
 rw [b] at d
 clear a b h
 obtain⟨y51,y52,y53,y54,y55,y56,y57,⟨rfl,rfl⟩,h⟩:=d
 conv=>cbv
 refine z0v hO tiA [[]] [(0,true,false),(1,true,false),(2,true,false),(3,true,false),(4,true,false),(5,true,false),(6,true,false),(7,true,false),(8,true,false),(9,true,true),(10,true,true),(11,true,true),(12,true,true),(13,true,true),(14,true,false),(15,true,false),(16,true,true),(17,true,true),(18,true,false),(19,true,false),(20,true,true),(21,true,true),(22,true,false),(23,true,false),(24,true,true),(25,true,true),(26,true,false),(27,true,false),(28,true,true),(29,true,true)] (by kernel_rfl) [0,2,4,97] [0,3000,5000,117000] [] (fun tm m=>∃ (j58:Bool),((tm=frame 0 131 [(0,.p 0 0 0),(2,.p 3000 1 0),(4,.p 5000 1 0),(97,.c (.v (.bool j58)))]∧m=⟨[(0,.blk 0 [.c (.v (.string y52)),.c (.v (.int .i64 y53)),.c (.v (.int .i64 y54)),.c (.v (.int .i64 y55)),.c (.v (.int .i64 y56)),.c (.v (.int .i64 y57))]),(3000,.blk 1 [.c (.v (.int .i64 0)),.c (.v (.int .i64 0)),.c (.v (.string ⟨#[]⟩)),.c (.sl 3 [] (some [])),.c (.sl 5 [] (some []))]),(5000,.blk 1 [.c (.v (.int .i64 2)),.c (.v (.int .i64 0)),.c (.v (.string z21)),.t 117000 1 (O.len z22),.c (.sl 5 [] (some []))]),(117000,.arr 1 3 z22 none false)],2⟩))∧p148_3 False fu K0 (p148_4L False fu K0 n1) z21 z22 y52 y53 y54 y55 y56 y57 j58) (fun L hL_3=>?_) ?_
 conv=>cbv
 refine br_h hO h (by subst hO;rfl) (fun k7 h=>?_) (fun k7 h=>?_)
 conv=>cbv
 refine br_t hO k7 ?_
 conv=>cbv
 refine br_t hO k7 ?_
 conv=>cbv
 refine br_h hO h (by subst hO;rfl) (fun k8 h=>?_) (fun k8 h=>?_)
 conv=>cbv
 refine br_t hO k8 ?_
 conv=>cbv
 refine br_t hO k7 ?_
 conv=>cbv
 refine br_t hO k8 ?_
 conv=>cbv
 refine br_t hO k7 ?_
 conv=>cbv
 refine br_t hO rfl ?_
 conv=>cbv
 refine br_t hO rfl ?_
 conv=>cbv
 refine br_t hO k7 ?_
 conv=>cbv
 refine br_t hO rfl ?_
 conv=>cbv
 refine br_t hO k7 ?_
 conv=>cbv
 refine br_t hO rfl ?_
 conv=>cbv
 refine br_t hO rfl ?_
 conv=>cbv
 refine br_t hO k7 ?_
 conv=>cbv
 refine br_t hO rfl ?_
 conv=>cbv
 refine br_t hO k7 ?_
 conv=>cbv
 refine br_t hO rfl ?_
 conv=>cbv
 refine br_t hO rfl ?_
 conv=>cbv
 refine br_t hO k7 ?_
 conv=>cbv
 refine br_t hO rfl ?_
 conv=>cbv
 refine br_t hO k7 ?_
 conv=>cbv
 exact hL_3 _ _ ⟨true,⟨(by (conv=>lhs;cbv)<;>(subst hO;rfl)),(by (conv=>lhs;cbv)<;>(subst hO;rfl))⟩,h⟩
 conv=>cbv
 refine br_f hO k8 ?_
 conv=>cbv
 refine br_t hO k7 ?_
 conv=>cbv
 refine br_f hO k8 ?_
 conv=>cbv
 refine br_t hO k7 ?_
 conv=>cbv
 refine br_h hO h (by subst hO;rfl) (fun k9 h=>?_) (fun k9 h=>?_)
 conv=>cbv
 refine br_t hO k9 ?_
 conv=>cbv
 refine br_t hO k7 ?_
 conv=>cbv
 refine br_t hO k9 ?_
 conv=>cbv
 refine br_t hO k7 ?_
 conv=>cbv
 refine br_t hO rfl ?_
 conv=>cbv
 refine br_t hO rfl ?_
 conv=>cbv
 refine br_t hO k7 ?_
 conv=>cbv
 refine br_t hO rfl ?_
 conv=>cbv
 refine br_t hO k7 ?_
 conv=>cbv
 refine br_t hO rfl ?_
 conv=>cbv
 refine br_t hO rfl ?_
 conv=>cbv
 refine br_t hO k7 ?_
 conv=>cbv
 refine br_t hO rfl ?_
 conv=>cbv
 refine br_t hO k7 ?_
 conv=>cbv
 exact hL_3 _ _ ⟨true,⟨(by (conv=>lhs;cbv)<;>(subst hO;rfl)),(by (conv=>lhs;cbv)<;>(subst hO;rfl))⟩,h⟩
 conv=>cbv
 refine br_f hO k9 ?_
 conv=>cbv
 refine br_t hO k7 ?_
 conv=>cbv
 refine br_f hO k9 ?_
 conv=>cbv
 refine br_t hO k7 ?_
 conv=>cbv
 refine br_h hO h (by subst hO;rfl) (fun k10 h=>?_) (fun k10 h=>?_)
 conv=>cbv
 refine br_t hO k10 ?_
 conv=>cbv
 refine br_t hO k7 ?_
 conv=>cbv
 refine br_t hO k10 ?_
 conv=>cbv
 refine br_t hO k7 ?_
 conv=>cbv
 refine br_t hO rfl ?_
 conv=>cbv
 refine br_t hO rfl ?_
 conv=>cbv
 refine br_t hO k7 ?_
 conv=>cbv
 refine br_t hO rfl ?_
 conv=>cbv
 refine br_t hO k7 ?_
 conv=>cbv
 exact hL_3 _ _ ⟨true,⟨(by (conv=>lhs;cbv)<;>(subst hO;rfl)),(by (conv=>lhs;cbv)<;>(subst hO;rfl))⟩,h⟩
 conv=>cbv
 refine br_f hO k10 ?_
 conv=>cbv
 refine br_t hO k7 ?_
 conv=>cbv
 refine br_f hO k10 ?_
 conv=>cbv
 refine br_t hO k7 ?_
 conv=>cbv
 refine br_h hO h (by subst hO;rfl) (fun k11 h=>?_) (fun k11 h=>?_)
 conv=>cbv
 refine br_t hO k11 ?_
 conv=>cbv
 refine br_t hO k7 ?_
 conv=>cbv
 refine br_t hO k11 ?_
 conv=>cbv
 refine br_t hO k7 ?_
 conv=>cbv
 exact hL_3 _ _ ⟨true,⟨(by (conv=>lhs;cbv)<;>(subst hO;rfl)),(by (conv=>lhs;cbv)<;>(subst hO;rfl))⟩,h⟩
 conv=>cbv
 refine br_f hO k11 ?_
 conv=>cbv
 refine br_t hO k7 ?_
 conv=>cbv
 refine br_f hO k11 ?_
 conv=>cbv
 refine br_t hO k7 ?_
 conv=>cbv
 exact hL_3 _ _ ⟨(z0a .eql y51 112),⟨(by (conv=>lhs;cbv)<;>(subst hO;rfl)),(by (conv=>lhs;cbv)<;>(subst hO;rfl))⟩,h⟩
 conv=>cbv
 refine br_f hO k7 ?_
 conv=>cbv
 refine br_f hO k7 ?_
 conv=>cbv
 refine br_f hO k7 ?_
 conv=>cbv
 refine br_f hO k7 ?_
 conv=>cbv
 refine br_f hO k7 ?_
 conv=>cbv
 refine br_f hO k7 ?_
 conv=>cbv
 refine br_f hO k7 ?_
 conv=>cbv
 refine br_f hO k7 ?_
 conv=>cbv
 refine br_f hO k7 ?_
 conv=>cbv
 refine br_f hO k7 ?_
 conv=>cbv
 exact hL_3 _ _ ⟨false,⟨(by (conv=>lhs;cbv)<;>(subst hO;rfl)),(by (conv=>lhs;cbv)<;>(subst hO;rfl))⟩,h⟩
 rintro tm m ⟨j58,hs,h⟩
 unfold p148_3 at h
 obtain⟨rfl,rfl⟩:=hs
 conv=>cbv
 refine z0f hO tiA h (by subst hO;rfl) [0,2,4] [0,3000,5000,117000] [] (fun tm m=>∃ (j59:ByteArray) (j60:Int) (j61:Int) (j62:Int) (j63:Int) (j64:Int),((tm=frame 0 131 [(0,.p 0 0 0),(2,.p 3000 1 0),(4,.p 5000 1 0)]∧m=⟨[(0,.blk 0 [.c (.v (.string j59)),.c (.v (.int .i64 j60)),.c (.v (.int .i64 j61)),.c (.v (.int .i64 j62)),.c (.v (.int .i64 j63)),.c (.v (.int .i64 j64))]),(3000,.blk 1 [.c (.v (.int .i64 0)),.c (.v (.int .i64 0)),.c (.v (.string ⟨#[]⟩)),.c (.sl 3 [] (some [])),.c (.sl 5 [] (some []))]),(5000,.blk 1 [.c (.v (.int .i64 2)),.c (.v (.int .i64 0)),.c (.v (.string z21)),.t 117000 1 (O.len z22),.c (.sl 5 [] (some []))]),(117000,.arr 1 3 z22 none false)],2⟩))∧p148_2 False fu K0 (p148_4L False fu K0 n1) z21 z22 j59 j60 j61 j62 j63 j64) (fun k6 h L hL_2=>?_) (fun k6 h L hL_2=>?_) ?_
 conv=>cbv
 refine z0c hO [.ref 6,.shut,.shut] (d_p147 fu O.len hN h) ?_
 intro e Q a b
 conv=>cbv
 refine⟨by subst a hO;rfl,?_⟩
 intro r bs d
 rw [b] at d
 clear a b h
 obtain⟨y65,y66,y67,y68,y69,y70,_,_,⟨rfl,rfl⟩,h⟩:=d
 conv=>cbv
 exact hL_2 _ _ ⟨y65,y66,y67,y68,y69,y70,⟨(by (conv=>lhs;cbv)<;>(subst hO;rfl)),(by (conv=>lhs;cbv)<;>(subst hO;rfl))⟩,h⟩
 conv=>cbv
 exact hL_2 _ _ ⟨y52,y53,y54,y55,y56,y57,⟨(by (conv=>lhs;cbv)<;>(subst hO;rfl)),(by (conv=>lhs;cbv)<;>(subst hO;rfl))⟩,h⟩
 rintro tm m ⟨j59,j60,j61,j62,j63,j64,hs,h⟩
 unfold p148_2 at h
 obtain⟨rfl,rfl⟩:=hs
 conv=>cbv
 exact hL_1 _ _ ⟨j59,j60,j61,j62,j63,j64,⟨(by (conv=>lhs;cbv)<;>(subst hO;rfl)),(by (conv=>lhs;cbv)<;>(subst hO;rfl))⟩,h⟩
 conv=>cbv
 exact hL_1 _ _ ⟨z15,z16,z17,z18,z19,z20,⟨(by (conv=>lhs;cbv)<;>(subst hO;rfl)),(by (conv=>lhs;cbv)<;>(subst hO;rfl))⟩,h⟩
 rintro tm m ⟨j23,j24,j25,j26,j27,j28,hs,h⟩
 unfold p148_1 at h
 obtain⟨rfl,rfl⟩:=hs
 conv=>cbv
 refine z0c hO [.ref 6] (d_p150 fu O.len hN h) ?_
 intro e Q a b
 conv=>cbv
 refine⟨by subst a hO;rfl,?_⟩
 intro r bs d
 rw [b] at d
 clear a b h
 obtain⟨y29,y30,y31,y32,y33,y34,y35,y36,y37,⟨rfl,rfl⟩,h⟩:=d
 conv=>cbv
 refine br_h hO h (by subst hO;rfl) (fun k3 h=>?_) (fun k3 h=>?_)
 conv=>cbv
 refine z0o hO ?_
 conv=>cbv
 rw [b]
 exact⟨2,0,z21,z22,nilE,y32,y33,y34,y35,y36,y37,⟨(by subst hO;rfl),(by subst hO;rfl)⟩,h⟩
 conv=>cbv
 refine z0b hO ?_
 conv=>cbv
 refine z0t hO h (fun g=>(by subst hO;exact g)) (fun h=>?_)
 conv=>cbv
 refine⟨(by subst hO;rfl),?_⟩
 refine and_h h (fun g=>(by subst hO;exact g)) (fun h=>?_)
 refine z0c hO [.ref 6] (d_p145 fu O.len hN h) ?_
 intro e Q a b
 conv=>cbv
 refine⟨by subst a hO;rfl,?_⟩
 intro r bs d
 rw [b] at d
 clear a b h
 obtain⟨y38,y39,y40,y41,y42,y43,y44,⟨rfl,rfl⟩,h⟩:=d
 conv=>cbv
 refine br_h hO h (by subst hO;rfl) (fun k4 h=>?_) (fun k4 h=>?_)
 conv=>cbv
 refine z0c hO [.ref 6,.shut] (d_p151 fu O.len hN h) ?_
 intro e Q a b
 conv=>cbv
 refine⟨by subst a hO;rfl,?_⟩
 intro r bs d
 rw [b] at d
 clear a b h
 obtain⟨y45,y46,y47,y48,y49,y50,_,⟨rfl,rfl⟩,h⟩:=d
 conv=>cbv
 refine z0o hO ?_
 conv=>cbv
 rw [b]
 exact⟨2,0,z21,(z22++(List.take 1 [[(CV.v (.int .i64 y29)),(CV.v (.int .i64 y30)),(CV.sl 3 y31 none)]])),nilE,y45,y46,y47,y48,y49,y50,⟨(by subst hO;rfl),(by subst hO;rfl)⟩,h⟩
 conv=>cbv
 refine z0b hO ?_
 conv=>cbv
 exact hLn1 n1 _ _ (Nat.lt_succ_self n1) ⟨y39,z0d .add .i64 y40 1,y41,y42,y43,y44,z21,(z22++(List.take 1 [[(CV.v (.int .i64 y29)),(CV.v (.int .i64 y30)),(CV.sl 3 y31 none)]])),(.inr ⟨(by (conv=>lhs;cbv)<;>(subst hO;rfl)),(by (conv=>lhs;cbv)<;>(subst hO;rfl))⟩),h⟩)
theorem d_p155 (fu:Nat){K0:ByteArray→Int→Int→Int→Int→Int→Prop}(L:EL→Nat)(hN:L=List.length){x0:ByteArray}{x1 x2 x3 x4 x5:Int}(h:p155 False fu K0 x0 x1 x2 x3 x4 x5):Den Try.prog G0 155 [.ptr [.c (.v (.string x0)),.c (.v (.int .i64 x1)),.c (.v (.int .i64 x2)),.c (.v (.int .i64 x3)),.c (.v (.int .i64 x4)),.c (.v (.int .i64 x5))]] (fun r bs=>(∃ (y0:ByteArray) (y1 y2 y3 y4 y5:Int),(r=.tup []∧bs=[.ptr [.c (.v (.string y0)),.c (.v (.int .i64 y1)),.c (.v (.int .i64 y2)),.c (.v (.int .i64 y3)),.c (.v (.int .i64 y4)),.c (.v (.int .i64 y5))]])∧K0 y0 y1 y2 y3 y4 y5)):=by
 obtain⟨O,hO⟩:∃ O,O=std 1 T G0 (Den Try.prog G0):=⟨_,rfl⟩
 have hLO:L=O.len:=by rw [hN,hO];rfl
 subst hLO
 refine den_h hO tiA mixed tabOk (fn:=Try.f155) (sh:=true) (by kernel_rfl) rfl rfl rfl rfl ?_
 intro Q b
 unfold p155 at h
 conv=>cbv
 refine z0v hO tiA [[],[],[]] [(0,true,false),(1,true,false),(2,true,false),(3,true,false),(4,true,false),(5,true,false),(6,true,false),(7,true,false),(8,true,false),(9,true,false),(10,true,false),(11,true,false),(12,true,false),(13,true,false),(14,true,false),(15,true,false),(16,true,false),(17,true,false),(18,true,false),(19,true,false),(20,false,false),(21,true,false),(22,true,false),(23,true,false),(24,true,false),(25,true,false),(26,true,false),(27,true,false),(28,true,false),(29,true,false),(30,true,false),(31,false,false),(32,true,true),(33,true,false)] (by kernel_rfl) [0,35] [0] [] (fun tm m=>∃ (j1:Bool),((tm=frame 0 42 [(0,.p 0 0 0),(35,.c (.v (.bool j1)))]∧m=⟨[(0,.blk 0 [.c (.v (.string x0)),.c (.v (.int .i64 x1)),.c (.v (.int .i64 x2)),.c (.v (.int .i64 x3)),.c (.v (.int .i64 x4)),.c (.v (.int .i64 x5))])],2⟩))∧p155_2 False fu K0 x0 x1 x2 x3 x4 x5 j1) (fun L hL_2=>?_) ?_
 conv=>cbv
 refine br_h hO h (by subst hO;rfl) (fun k2 h=>?_) (fun k2 h=>?_)
 conv=>cbv
 refine br_t hO k2 ?_
 conv=>cbv
 refine br_t hO k2 ?_
 conv=>cbv
 refine br_t hO k2 ?_
 conv=>cbv
 refine br_t hO k2 ?_
 conv=>cbv
 refine br_t hO k2 ?_
 conv=>cbv
 refine br_t hO k2 ?_
 conv=>cbv
 refine br_t hO k2 ?_
 conv=>cbv
 refine br_t hO k2 ?_
 conv=>cbv
 refine and_h h (fun g=>(by subst hO;exact g)) (fun h=>?_)
 refine and_h h (fun g=>(by subst hO;exact g)) (fun h=>?_)
 refine br_t hO k2 ?_
 conv=>cbv
 refine z0c hO [.shut] (d_p146 fu O.len hN h) ?_
 intro e Q a b
 conv=>cbv
 refine⟨by subst a hO;rfl,?_⟩
 intro r bs d
 rw [b] at d
 clear a b h
 obtain⟨y14,_,⟨rfl,rfl⟩,h⟩:=d
 conv=>cbv
 refine agr hO rfl rfl ?_
 refine br_t hO k2 ?_
 conv=>cbv
 refine br_h hO h (by subst hO;rfl) (fun k3 h=>?_) (fun k3 h=>?_)
 conv=>cbv
 refine br_t hO k3 ?_
 conv=>cbv
 refine br_t hO k3 ?_
 conv=>cbv
 refine br_t hO k3 ?_
 conv=>cbv
 refine br_t hO k3 ?_
 conv=>cbv
 refine br_t hO k3 ?_
 conv=>cbv
 refine br_t hO k3 ?_
 conv=>cbv
 refine br_t hO k3 ?_
 conv=>cbv
 refine br_t hO k3 ?_
 conv=>cbv
 refine br_t hO k3 ?_
 conv=>cbv
 refine br_t hO k2 ?_
 conv=>cbv
 refine br_t hO k3 ?_
 conv=>cbv
 refine br_t hO k2 ?_
 conv=>cbv
 exact hL_2 _ _ ⟨true,⟨(by (conv=>lhs;cbv)<;>(subst hO;rfl)),(by (conv=>lhs;cbv)<;>(subst hO;rfl))⟩,h⟩
 conv=>cbv
 refine br_f hO k3 ?_
 conv=>cbv
 refine br_f hO k3 ?_
 conv=>cbv
 refine br_f hO k3 ?_
 conv=>cbv
 refine br_f hO k3 ?_
 conv=>cbv
 refine br_f hO k3 ?_
 conv=>cbv
 refine br_f hO k3 ?_
 conv=>cbv
 refine br_f hO k3 ?_
 conv=>cbv
 refine br_f hO k3 ?_
 conv=>cbv
 refine and_h h (fun g=>(by subst hO;exact g)) (fun h=>?_)
 refine and_h h (fun g=>(by subst hO;exact g)) (fun h=>?_)
 refine br_f hO k3 ?_
 conv=>cbv
 refine z0c hO [.shut] (d_p154 fu O.len hN h) ?_
 intro e Q a b
 conv=>cbv
 refine⟨by subst a hO;rfl,?_⟩
 intro r bs d
 rw [b] at d
 clear a b h
 obtain⟨y15,_,⟨rfl,rfl⟩,h⟩:=d
 conv=>cbv
 refine agr hO rfl rfl ?_
 refine br_t hO k2 ?_
 conv=>cbv
 refine br_f hO k3 ?_
 conv=>cbv
 refine br_t hO k2 ?_
 conv=>cbv
 exact hL_2 _ _ ⟨y15,⟨(by (conv=>lhs;cbv)<;>(subst hO;rfl)),(by (conv=>lhs;cbv)<;>(subst hO;rfl))⟩,h⟩
 conv=>cbv
 refine br_f hO k2 ?_
 conv=>cbv
 refine br_f hO k2 ?_
 conv=>cbv
 refine br_f hO k2 ?_
 conv=>cbv
 refine br_f hO k2 ?_
 conv=>cbv
 refine br_f hO k2 ?_
 conv=>cbv
 refine br_f hO k2 ?_
 conv=>cbv
 refine br_f hO k2 ?_
 conv=>cbv
 refine br_f hO k2 ?_
 conv=>cbv
 refine br_f hO k2 ?_
 conv=>cbv
 refine br_f hO k2 ?_
 conv=>cbv
 refine br_f hO k2 ?_
 conv=>cbv
 refine br_f hO k2 ?_
 conv=>cbv
 exact hL_2 _ _ ⟨false,⟨(by (conv=>lhs;cbv)<;>(subst hO;rfl)),(by (conv=>lhs;cbv)<;>(subst hO;rfl))⟩,h⟩
 rintro tm m ⟨j1,hs,h⟩
 unfold p155_2 at h
 obtain⟨rfl,rfl⟩:=hs
 conv=>cbv
 refine z0f hO tiA h (by subst hO;rfl) [] [0] [] (fun tm m=>∃ (j2:ByteArray) (j3:Int) (j4:Int) (j5:Int) (j6:Int) (j7:Int),((tm=frame 0 42 []∧m=⟨[(0,.blk 0 [.c (.v (.string j2)),.c (.v (.int .i64 j3)),.c (.v (.int .i64 j4)),.c (.v (.int .i64 j5)),.c (.v (.int .i64 j6)),.c (.v (.int .i64 j7))])],2⟩))∧p155_1 False fu K0 j2 j3 j4 j5 j6 j7) (fun k1 h L hL_1=>?_) (fun k1 h L hL_1=>?_) ?_
 conv=>cbv
 refine z0c hO [.ref 6,.shut,.shut] (d_p147 fu O.len hN h) ?_
 intro e Q a b
 conv=>cbv
 refine⟨by subst a hO;rfl,?_⟩
 intro r bs d
 rw [b] at d
 clear a b h
 obtain⟨y8,y9,y10,y11,y12,y13,_,_,⟨rfl,rfl⟩,h⟩:=d
 conv=>cbv
 exact hL_1 _ _ ⟨y8,y9,y10,y11,y12,y13,⟨(by (conv=>lhs;cbv)<;>(subst hO;rfl)),(by (conv=>lhs;cbv)<;>(subst hO;rfl))⟩,h⟩
 conv=>cbv
 exact hL_1 _ _ ⟨x0,x1,x2,x3,x4,x5,⟨(by (conv=>lhs;cbv)<;>(subst hO;rfl)),(by (conv=>lhs;cbv)<;>(subst hO;rfl))⟩,h⟩
 rintro tm m ⟨j2,j3,j4,j5,j6,j7,hs,h⟩
 unfold p155_1 at h
 obtain⟨rfl,rfl⟩:=hs
 conv=>cbv
 rw [b]
 exact⟨j2,j3,j4,j5,j6,j7,⟨(by subst hO;rfl),(by subst hO;rfl)⟩,h⟩
theorem d_p149 (fu:Nat){K0:Int→ByteArray→Int→Int→Int→Int→Int→Prop}(L:EL→Nat)(hN:L=List.length){x0:ByteArray}{x1 x2 x3 x4 x5:Int}(h:p149 False fu K0 x0 x1 x2 x3 x4 x5):Den Try.prog G0 149 [.ptr [.c (.v (.string x0)),.c (.v (.int .i64 x1)),.c (.v (.int .i64 x2)),.c (.v (.int .i64 x3)),.c (.v (.int .i64 x4)),.c (.v (.int .i64 x5))]] (fun r bs=>(∃ (y0:Int) (y1:ByteArray) (y2 y3 y4 y5 y6:Int),(r=.c (.v (.int .i64 y0))∧bs=[.ptr [.c (.v (.string y1)),.c (.v (.int .i64 y2)),.c (.v (.int .i64 y3)),.c (.v (.int .i64 y4)),.c (.v (.int .i64 y5)),.c (.v (.int .i64 y6))]])∧K0 y0 y1 y2 y3 y4 y5 y6)):=by
 obtain⟨O,hO⟩:∃ O,O=std 1 T G0 (Den Try.prog G0):=⟨_,rfl⟩
 have hLO:L=O.len:=by rw [hN,hO];rfl
 subst hLO
 refine den_h hO tiA mixed tabOk (fn:=Try.f149) (sh:=true) (by kernel_rfl) rfl rfl rfl rfl ?_
 intro Q b
 unfold p149 at h
 conv=>cbv
 refine z0r hO tiA [0,3] [0] [] (fun (n:Nat) tm m=>∃ (z1:Int),((tm=frame 0 106 [(0,.p 0 0 0),(3,.c (.v (.int .i64 x1)))]∧m=⟨[(0,.blk 0 [.c (.v (.string x0)),.c (.v (.int .i64 z1)),.c (.v (.int .i64 x2)),.c (.v (.int .i64 x3)),.c (.v (.int .i64 x4)),.c (.v (.int .i64 x5))])],2⟩))∧p149_4L False fu K0 x0 x1 x2 x3 x4 x5 n z1) (fun n=>n) fu ⟨x1,⟨(by (conv=>lhs;cbv)<;>(subst hO;rfl)),(by (conv=>lhs;cbv)<;>(subst hO;rfl))⟩,h⟩ ?_
 rintro n1 tm m L ⟨z1,hs,h⟩ hLn1
 (cases n1 with
 | zero=>rw [p149_4L] at h;exact h.elim
 | succ n1 =>
 rw [p149_4L] at h
 unfold p149_4 at h
 obtain⟨rfl,rfl⟩:=hs
 conv=>cbv
 refine z0v hO tiA [[],[]] [(0,true,false),(1,true,false),(2,true,false),(3,true,false),(4,true,false),(5,true,false),(6,true,false),(7,true,false),(8,true,false),(9,true,false),(10,true,false),(11,true,false),(12,true,false),(13,true,false),(14,true,false),(15,true,false),(16,true,false),(17,true,false),(18,true,false),(19,true,true),(20,false,true),(21,true,true)] (by kernel_rfl) [0,3,31] [0] [] (fun tm m=>∃ (j2:Bool),((tm=frame 0 106 [(0,.p 0 0 0),(3,.c (.v (.int .i64 x1))),(31,.c (.v (.bool j2)))]∧m=⟨[(0,.blk 0 [.c (.v (.string x0)),.c (.v (.int .i64 z1)),.c (.v (.int .i64 x2)),.c (.v (.int .i64 x3)),.c (.v (.int .i64 x4)),.c (.v (.int .i64 x5))])],2⟩))∧p149_3 False fu K0 (p149_4L False fu K0 x0 x1 x2 x3 x4 x5 n1) x0 x1 x2 x3 x4 x5 z1 j2) (fun L hL_3=>?_) ?_
 conv=>cbv
 refine br_h hO h (by subst hO;rfl) (fun k7 h=>?_) (fun k7 h=>?_)
 conv=>cbv
 refine br_t hO k7 ?_
 conv=>cbv
 refine br_t hO k7 ?_
 conv=>cbv
 refine br_t hO k7 ?_
 conv=>cbv
 refine br_t hO k7 ?_
 conv=>cbv
 refine br_t hO k7 ?_
 conv=>cbv
 refine br_t hO k7 ?_
 conv=>cbv
 refine br_t hO k7 ?_
 conv=>cbv
 refine br_t hO k7 ?_
 conv=>cbv
 refine and_h h (fun g=>(by subst hO;exact g)) (fun h=>?_)
 refine and_h h (fun g=>(by subst hO;exact g)) (fun h=>?_)
 refine br_t hO k7 ?_
 conv=>cbv
 refine z0c hO [.shut] (d_p154 fu O.len hN h) ?_
 intro e Q a b
 conv=>cbv
 refine⟨by subst a hO;rfl,?_⟩
 intro r bs d
 rw [b] at d
 clear a b h
 obtain⟨y30,_,⟨rfl,rfl⟩,h⟩:=d
 conv=>cbv
 refine br_t hO k7 ?_
 conv=>cbv
 exact hL_3 _ _ ⟨y30,⟨(by (conv=>lhs;cbv)<;>(subst hO;rfl)),(by (conv=>lhs;cbv)<;>(subst hO;rfl))⟩,h⟩
 conv=>cbv
 refine br_f hO k7 ?_
 conv=>cbv
 refine br_f hO k7 ?_
 conv=>cbv
 refine br_f hO k7 ?_
 conv=>cbv
 refine br_f hO k7 ?_
 conv=>cbv
 refine br_f hO k7 ?_
 conv=>cbv
 refine br_f hO k7 ?_
 conv=>cbv
 refine br_f hO k7 ?_
 conv=>cbv
 refine br_f hO k7 ?_
 conv=>cbv
 refine br_f hO k7 ?_
 conv=>cbv
 refine br_f hO k7 ?_
 conv=>cbv
 exact hL_3 _ _ ⟨false,⟨(by (conv=>lhs;cbv)<;>(subst hO;rfl)),(by (conv=>lhs;cbv)<;>(subst hO;rfl))⟩,h⟩
 rintro tm m ⟨j2,hs,h⟩
 unfold p149_3 at h
 obtain⟨rfl,rfl⟩:=hs
 conv=>cbv
 refine br_h hO h (by subst hO;rfl) (fun k1 h=>?_) (fun k1 h=>?_)
 conv=>cbv
 refine z0b hO ?_
 conv=>cbv
 refine br_h hO h (by subst hO;rfl) (fun k2 h=>?_) (fun k2 h=>?_)
 conv=>cbv
 refine z0c hO [.ref 6,.shut,.shut] (d_p147 fu O.len hN h) ?_
 intro e Q a b
 conv=>cbv
 refine⟨by subst a hO;rfl,?_⟩
 intro r bs d
 rw [b] at d
 clear a b h
 obtain⟨y3,y4,y5,y6,y7,y8,_,_,⟨rfl,rfl⟩,h⟩:=d
 conv=>cbv
 rw [b]
 exact⟨0,y3,y4,y5,y6,y7,y8,⟨(by subst hO;rfl),(by subst hO;rfl)⟩,h⟩
 conv=>cbv
 refine z0b hO ?_
 conv=>cbv
 refine z0u hO tiA [0,3,57] [0] [] (fun tm m=>∃ (j9:Bool),((tm=frame 0 106 [(0,.p 0 0 0),(3,.c (.v (.int .i64 x1))),(57,.c (.v (.bool j9)))]∧m=⟨[(0,.blk 0 [.c (.v (.string x0)),.c (.v (.int .i64 z1)),.c (.v (.int .i64 x2)),.c (.v (.int .i64 x3)),.c (.v (.int .i64 x4)),.c (.v (.int .i64 x5))])],2⟩))∧p149_1 False fu K0 (p149_4L False fu K0 x0 x1 x2 x3 x4 x5 n1) x0 x2 x3 x4 x5 z1 j9) (fun L hL_1=>?_) ?_
 conv=>cbv
 refine br_h hO h (by subst hO;rfl) (fun k4 h=>?_) (fun k4 h=>?_)
 conv=>cbv
 refine br_t hO k4 ?_
 conv=>cbv
 refine br_t hO k4 ?_
 conv=>cbv
 refine br_t hO k4 ?_
 conv=>cbv
 refine br_t hO k4 ?_
 conv=>cbv
 refine br_t hO k4 ?_
 conv=>cbv
 refine and_h h (fun g=>(by subst hO;exact g)) (fun h=>?_)
 refine and_h h (fun g=>(by subst hO;exact g)) (fun h=>?_)
 refine br_t hO k4 ?_
 conv=>cbv
 refine br_t hO k4 ?_
 conv=>cbv
 exact hL_1 _ _ ⟨(z0a .eql ((List.getD x0.data.toList (x1:Int).toNat 0).toNat:Nat) 48),⟨(by (conv=>lhs;cbv)<;>(subst hO;rfl)),(by (conv=>lhs;cbv)<;>(subst hO;rfl))⟩,h⟩
 conv=>cbv
 refine br_f hO k4 ?_
 conv=>cbv
 refine br_f hO k4 ?_
 conv=>cbv
 refine br_f hO k4 ?_
 conv=>cbv
 refine br_f hO k4 ?_
 conv=>cbv
 refine br_f hO k4 ?_
 conv=>cbv
 refine br_f hO k4 ?_
 conv=>cbv
 refine br_f hO k4 ?_
 conv=>cbv
 exact hL_1 _ _ ⟨false,⟨(by (conv=>lhs;cbv)<;>(subst hO;rfl)),(by (conv=>lhs;cbv)<;>(subst hO;rfl))⟩,h⟩
 rintro tm m ⟨j9,hs,h⟩
 unfold p149_1 at h
 obtain⟨rfl,rfl⟩:=hs
 conv=>cbv
 refine br_h hO h (by subst hO;rfl) (fun k3 h=>?_) (fun k3 h=>?_)
 conv=>cbv
 refine z0c hO [.ref 6,.shut,.shut] (d_p147 fu O.len hN h) ?_
 intro e Q a b
 conv=>cbv
 refine⟨by subst a hO;rfl,?_⟩
 intro r bs d
 rw [b] at d
 clear a b h
 obtain⟨y10,y11,y12,y13,y14,y15,_,_,⟨rfl,rfl⟩,h⟩:=d
 conv=>cbv
 rw [b]
 exact⟨0,y10,y11,y12,y13,y14,y15,⟨(by subst hO;rfl),(by subst hO;rfl)⟩,h⟩
 conv=>cbv
 refine z0b hO ?_
 conv=>cbv
 exact hLn1 n1 _ _ (Nat.lt_succ_self n1) ⟨z0d .add .i64 z1 1,⟨(by (conv=>lhs;cbv)<;>(subst hO;rfl)),(by (conv=>lhs;cbv)<;>(subst hO;rfl))⟩,h⟩
 conv=>cbv
 refine br_h hO h (by subst hO;rfl) (fun k5 h=>?_) (fun k5 h=>?_)
 conv=>cbv
 refine z0c hO [.ref 6,.shut,.shut] (d_p147 fu O.len hN h) ?_
 intro e Q a b
 conv=>cbv
 refine⟨by subst a hO;rfl,?_⟩
 intro r bs d
 rw [b] at d
 clear a b h
 obtain⟨y16,y17,y18,y19,y20,y21,_,_,⟨rfl,rfl⟩,h⟩:=d
 conv=>cbv
 rw [b]
 exact⟨0,y16,y17,y18,y19,y20,y21,⟨(by subst hO;rfl),(by subst hO;rfl)⟩,h⟩
 conv=>cbv
 refine z0b hO ?_
 conv=>cbv
 refine z0r hO tiA [0,4,5] [0] [] (fun (n:Nat) tm m=>∃ (z22:Int) (z23:Int),((tm=frame 0 106 [(0,.p 0 0 0),(4,.c (.v (.int .i64 z22))),(5,.c (.v (.int .i64 z23)))]∧m=⟨[(0,.blk 0 [.c (.v (.string x0)),.c (.v (.int .i64 z1)),.c (.v (.int .i64 x2)),.c (.v (.int .i64 x3)),.c (.v (.int .i64 x4)),.c (.v (.int .i64 x5))])],2⟩))∧p149_2L False fu K0 x0 x2 x3 x4 x5 z1 n z22 z23) (fun n=>n) fu ⟨0,x1,⟨(by (conv=>lhs;cbv)<;>(subst hO;rfl)),(by (conv=>lhs;cbv)<;>(subst hO;rfl))⟩,h⟩ ?_
 rintro n2 tm m L ⟨z22,z23,hs,h⟩ hLn2
 (cases n2 with
 | zero=>rw [p149_2L] at h;exact h.elim
 | succ n2 =>
 rw [p149_2L] at h
 unfold p149_2 at h
 obtain⟨rfl,rfl⟩:=hs
 conv=>cbv
 refine br_h hO h (by subst hO;rfl) (fun k6 h=>?_) (fun k6 h=>?_)
 conv=>cbv
 refine z0b hO ?_
 conv=>cbv
 refine and_h h (fun g=>(by subst hO;exact g)) (fun h=>?_)
 refine and_h h (fun g=>(by subst hO;exact g)) (fun h=>?_)
 exact hLn2 n2 _ _ (Nat.lt_succ_self n2) ⟨z0d .add .i64 (z0d .mul .i64 z22 10) (IntKind.i64.wrap (z0d .sub .u8 ((List.getD x0.data.toList (z23:Int).toNat 0).toNat:Nat) 48)),z0d .add .i64 z23 1,⟨(by (conv=>lhs;cbv)<;>(subst hO;rfl)),(by (conv=>lhs;cbv)<;>(subst hO;rfl))⟩,h⟩
 conv=>cbv
 refine z0c hO [.ref 6] (d_p155 fu O.len hN h) ?_
 intro e Q a b
 conv=>cbv
 refine⟨by subst a hO;rfl,?_⟩
 intro r bs d
 rw [b] at d
 clear a b h
 obtain⟨y24,y25,y26,y27,y28,y29,⟨rfl,rfl⟩,h⟩:=d
 conv=>cbv
 rw [b]
 exact⟨z22,y24,y25,y26,y27,y28,y29,⟨(by subst hO;rfl),(by subst hO;rfl)⟩,h⟩))
end Go.Proofs.Ythncmjlcmlmnmaa
