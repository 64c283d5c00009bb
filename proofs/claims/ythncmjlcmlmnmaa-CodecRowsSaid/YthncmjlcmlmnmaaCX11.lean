/- A part of the proof. Conditions: none. -/
import Derived.Test.YthncmjlcmlmnmaaCX4
import Derived.Test.YthncmjlcmlmnmaaCX7
import Derived.Test.YthncmjlcmlmnmaaCX9
import Derived.Test.YthncmjlcmlmnmaaCX10
import Derived.Test.YthncmjlcmlmnmaaCX8
import Derived.Test.YthncmjlcmlmnmaaCX5
import Derived.ChangeSlices
import Derived.Test.YthncmjlcmlmnmaaProg
import Derived.ProofKit
namespace Go.Proofs.Ythncmjlcmlmnmaa
open Go V
set_option maxRecDepth 100000
set_option maxHeartbeats 4000000
def D_p58 (fu:Nat):Prop:=∀ {K0:Int→Int→ByteArray→EL→EL→EL→Int→Prop} (L:EL→Nat) (_:L=List.length) {x0:EL} {x1 x2 x3:Int} {x4:ByteArray} {x5 x6:EL} (_:p58 False fu K0 x0 x1 x2 x3 x4 x5 x6),Den Try.prog G0 58 [.ptr [.c (.sl 1 x0 none),.c (.v (.int .i64 x1))],.agg [.c (.v (.int .i64 x2)),.c (.v (.int .i64 x3)),.c (.v (.string x4)),.c (.sl 3 x5 none),.c (.sl 5 x6 none)]] (fun r bs=>(∃ (y0 y1:Int) (y2:ByteArray) (y3 y4 y5:EL) (y6:Int) (o1:OV),(r=.agg [.c (.v (.int .i64 y0)),.c (.v (.int .i64 y1)),.c (.v (.string y2)),.c (.sl 3 y3 none),.c (.sl 5 y4 none)]∧bs=[.ptr [.c (.sl 1 y5 none),.c (.v (.int .i64 y6))],o1])∧K0 y0 y1 y2 y3 y4 y5 y6))
theorem b_p58 (fu:Nat)(ih_p58:D_p58 fu){K0:Int→Int→ByteArray→EL→EL→EL→Int→Prop}(L:EL→Nat)(hN:L=List.length){x0:EL}{x1 x2 x3:Int}{x4:ByteArray}{x5 x6:EL}(h:p58_b False fu (p58 False fu) K0 x0 x1 x2 x3 x4 x5 x6):Den Try.prog G0 58 [.ptr [.c (.sl 1 x0 none),.c (.v (.int .i64 x1))],.agg [.c (.v (.int .i64 x2)),.c (.v (.int .i64 x3)),.c (.v (.string x4)),.c (.sl 3 x5 none),.c (.sl 5 x6 none)]] (fun r bs=>(∃ (y0 y1:Int) (y2:ByteArray) (y3 y4 y5:EL) (y6:Int) (o1:OV),(r=.agg [.c (.v (.int .i64 y0)),.c (.v (.int .i64 y1)),.c (.v (.string y2)),.c (.sl 3 y3 none),.c (.sl 5 y4 none)]∧bs=[.ptr [.c (.sl 1 y5 none),.c (.v (.int .i64 y6))],o1])∧K0 y0 y1 y2 y3 y4 y5 y6)):=by
 obtain⟨O,hO⟩:∃ O,O=std 1 T G0 (Den Try.prog G0):=⟨_,rfl⟩
 have hLO:L=O.len:=by rw [hN,hO];rfl
 subst hLO
 refine den_h hO tiA mixed tabOk (fn:=Try.f58) (sh:=true) (by kernel_rfl) rfl rfl rfl rfl ?_
 intro Q b
 unfold p58_b at h
 conv=>cbv
 refine z0u hO tiA [0,3,4,15] [0,4000,5000] [] (fun tm m=>∃ (j1:EL) (j2:Int) (j3:Bool),((tm=frame 0 67 [(0,.p 0 0 0),(3,.p 4000 1 0),(4,.p 5000 1 0),(15,.c (.v (.bool j3)))]∧m=⟨[(0,.blk 0 [.c (.sl 1 j1 none),.c (.v (.int .i64 j2))]),(4000,.blk 1 [.c (.v (.int .i64 x2)),.c (.v (.int .i64 x3)),.c (.v (.string x4)),.c (.sl 3 x5 none),.c (.sl 5 x6 none)]),(5000,.blk 1 [.c (.v (.int .i64 0)),.c (.v (.int .i64 0)),.c (.v (.string ⟨#[]⟩)),.c (.sl 3 [] (some [])),.c (.sl 5 [] (some []))])],2⟩))∧p58_1 False fu (p58 False fu) K0 x2 x3 x4 x5 x6 j1 j2 j3) (fun L hL_1=>?_) ?_
 conv=>cbv
 refine br_h hO h (by subst hO;rfl) (fun k7 h=>?_) (fun k7 h=>?_)
 conv=>cbv
 refine br_t hO k7 ?_
 conv=>cbv
 refine z0c hO [.ref 2,.shut] (d_p52 fu O.len hN h) ?_
 intro e Q a b
 conv=>cbv
 refine⟨by subst a hO;rfl,?_⟩
 intro r bs d
 rw [b] at d
 clear a b h
 obtain⟨y79,y80,y81,_,⟨rfl,rfl⟩,h⟩:=d
 conv=>cbv
 refine br_t hO k7 ?_
 conv=>cbv
 refine br_t hO k7 ?_
 conv=>cbv
 exact hL_1 _ _ ⟨y80,y81,(z0a .gtr y79 0),⟨(by (conv=>lhs;cbv)<;>(subst hO;rfl)),(by (conv=>lhs;cbv)<;>(subst hO;rfl))⟩,h⟩
 conv=>cbv
 refine br_f hO k7 ?_
 conv=>cbv
 refine br_f hO k7 ?_
 conv=>cbv
 refine br_f hO k7 ?_
 conv=>cbv
 exact hL_1 _ _ ⟨x0,x1,false,⟨(by (conv=>lhs;cbv)<;>(subst hO;rfl)),(by (conv=>lhs;cbv)<;>(subst hO;rfl))⟩,h⟩
 rintro tm m ⟨j1,j2,j3,hs,h⟩
 unfold p58_1 at h
 obtain⟨rfl,rfl⟩:=hs
 conv=>cbv
 refine br_h hO h (by subst hO;rfl) (fun k1 h=>?_) (fun k1 h=>?_)
 conv=>cbv
 refine z0c hO [.ref 2,.shut] (d_p52 fu O.len hN h) ?_
 intro e Q a b
 conv=>cbv
 refine⟨by subst a hO;rfl,?_⟩
 intro r bs d
 rw [b] at d
 clear a b h
 obtain⟨y4,y5,y6,_,⟨rfl,rfl⟩,h⟩:=d
 conv=>cbv
 refine z0c hO [.shut] (d_p100b fu O.len hN h) ?_
 intro e Q a b
 conv=>cbv
 refine⟨by subst a hO;rfl,?_⟩
 intro r bs d
 rw [b] at d
 clear a b h
 rcases d with d | d | d | d
 obtain⟨y7,y8,y9,y10,y11,_,⟨rfl,rfl,rfl,rfl⟩,h⟩:=d
 conv=>cbv
 refine z0h hO tiA [[0],[],[]] [(0,true,false),(1,true,false),(2,true,false),(3,true,false),(4,true,false),(5,true,false),(6,true,false),(7,true,false),(8,true,false),(9,false,false),(10,true,false),(11,false,true)] (by kernel_rfl) ?_
 conv=>cbv
 refine and_h h (fun g=>(by subst hO;exact g)) (fun h=>?_)
 refine and_h h (fun g=>(by subst hO;exact g)) (fun h=>?_)
 obtain⟨c12,c13,c14,c15,c16,hr,h⟩:=z0e h
 refine z0m hO _ (by subst hO;exact hr) ?_
 clear hr
 conv=>cbv
 refine z0c hO [.ref 2,.shut] (ih_p58 O.len hN h) ?_
 intro e Q a b
 conv=>cbv
 refine⟨by subst a hO;rfl,?_⟩
 intro r bs d
 rw [b] at d
 clear a b h
 obtain⟨y17,y18,y19,y20,y21,y22,y23,_,⟨rfl,rfl⟩,h⟩:=d
 conv=>cbv
 refine agr hO rfl rfl ?_
 first | (obtain⟨hd1,h⟩:=z0q h;obtain⟨hd2,h⟩:=z0q h;exact absurd (Int.lt_of_le_of_lt hd1 hd2) (Int.lt_irrefl 0)) | (obtain⟨_,h⟩:=z0q h;obtain⟨hd1,h⟩:=z0q h;obtain⟨hd2,h⟩:=z0q h;exact absurd (Int.lt_of_le_of_lt hd1 hd2) (Int.lt_irrefl 0))
 obtain⟨y7,y8,y9,y10,y11,_,⟨rfl,rfl,rfl⟩,h⟩:=d
 conv=>cbv
 refine z0h hO tiA [[0],[],[]] [(0,true,false),(1,true,false),(2,true,false),(3,true,false),(4,true,false),(5,true,false),(6,true,false),(7,true,false),(8,true,false),(9,false,false),(10,true,false),(11,false,true)] (by kernel_rfl) ?_
 conv=>cbv
 refine and_h h (fun g=>(by subst hO;exact g)) (fun h=>?_)
 refine and_h h (fun g=>(by subst hO;exact g)) (fun h=>?_)
 obtain⟨c12,c13,c14,c15,c16,hr,h⟩:=z0e h
 refine z0m hO _ (by subst hO;exact hr) ?_
 clear hr
 conv=>cbv
 refine z0c hO [.ref 2,.shut] (ih_p58 O.len hN h) ?_
 intro e Q a b
 conv=>cbv
 refine⟨by subst a hO;rfl,?_⟩
 intro r bs d
 rw [b] at d
 clear a b h
 obtain⟨y17,y18,y19,y20,y21,y22,y23,_,⟨rfl,rfl⟩,h⟩:=d
 conv=>cbv
 refine agr hO rfl rfl ?_
 refine⟨(by subst hO;exact Nat.le_refl _),?_⟩
 refine and_h h (fun g=>(by subst hO;exact g)) (fun h=>?_)
 refine and_h h (fun g=>(by subst hO;exact g)) (fun h=>?_)
 refine and_h h (fun g=>(by subst hO;exact g)) (fun h=>?_)
 refine and_h h (fun g=>(by subst hO;exact g)) (fun h=>?_)
 refine z0b hO ?_
 conv=>cbv
 refine z0t hO h (fun g=>(by subst hO;exact g)) (fun h=>?_)
 conv=>cbv
 rw [b]
 exact⟨y7,y8,y9,nilE,List.take y11.length (List.set y11 ((y4:Int).toNat) (putAt (List.getD y11 ((y4:Int).toNat) []) 0 [(CV.v (.int .i64 y17)),(CV.v (.int .i64 y18)),(CV.v (.string y19)),(CV.sl 3 y20 none),(CV.sl 5 y21 none)])),y22,y23,_,⟨(by subst hO;rfl),(by subst hO;rfl)⟩,h⟩
 obtain⟨y7,y8,y9,y10,y11,_,⟨rfl,rfl,rfl⟩,h⟩:=d
 conv=>cbv
 refine z0h hO tiA [[0],[],[]] [(0,true,false),(1,true,false),(2,true,false),(3,true,false),(4,true,false),(5,true,false),(6,true,false),(7,true,false),(8,true,false),(9,false,false),(10,true,false),(11,false,true)] (by kernel_rfl) ?_
 conv=>cbv
 refine and_h h (fun g=>(by subst hO;exact g)) (fun h=>?_)
 refine and_h h (fun g=>(by subst hO;exact g)) (fun h=>?_)
 obtain⟨c12,c13,c14,c15,c16,hr,h⟩:=z0e h
 refine z0m hO _ (by subst hO;exact hr) ?_
 clear hr
 conv=>cbv
 refine z0c hO [.ref 2,.shut] (ih_p58 O.len hN h) ?_
 intro e Q a b
 conv=>cbv
 refine⟨by subst a hO;rfl,?_⟩
 intro r bs d
 rw [b] at d
 clear a b h
 obtain⟨y17,y18,y19,y20,y21,y22,y23,_,⟨rfl,rfl⟩,h⟩:=d
 conv=>cbv
 refine agr hO rfl rfl ?_
 first | (obtain⟨hd1,h⟩:=z0q h;obtain⟨hd2,h⟩:=z0q h;exact absurd (Int.lt_of_le_of_lt hd1 hd2) (Int.lt_irrefl 0)) | (obtain⟨_,h⟩:=z0q h;obtain⟨hd1,h⟩:=z0q h;obtain⟨hd2,h⟩:=z0q h;exact absurd (Int.lt_of_le_of_lt hd1 hd2) (Int.lt_irrefl 0))
 obtain⟨y7,y8,y9,y10,y11,_,⟨rfl,rfl⟩,h⟩:=d
 conv=>cbv
 refine z0h hO tiA [[0],[],[]] [(0,true,false),(1,true,false),(2,true,false),(3,true,false),(4,true,false),(5,true,false),(6,true,false),(7,true,false),(8,true,false),(9,false,false),(10,true,false),(11,false,true)] (by kernel_rfl) ?_
 conv=>cbv
 refine and_h h (fun g=>(by subst hO;exact g)) (fun h=>?_)
 refine and_h h (fun g=>(by subst hO;exact g)) (fun h=>?_)
 obtain⟨c12,c13,c14,c15,c16,hr,h⟩:=z0e h
 refine z0m hO _ (by subst hO;exact hr) ?_
 clear hr
 conv=>cbv
 refine z0c hO [.ref 2,.shut] (ih_p58 O.len hN h) ?_
 intro e Q a b
 conv=>cbv
 refine⟨by subst a hO;rfl,?_⟩
 intro r bs d
 rw [b] at d
 clear a b h
 obtain⟨y17,y18,y19,y20,y21,y22,y23,_,⟨rfl,rfl⟩,h⟩:=d
 conv=>cbv
 refine agr hO rfl rfl ?_
 refine⟨(by subst hO;exact Nat.le_refl _),?_⟩
 refine and_h h (fun g=>(by subst hO;exact g)) (fun h=>?_)
 refine and_h h (fun g=>(by subst hO;exact g)) (fun h=>?_)
 refine and_h h (fun g=>(by subst hO;exact g)) (fun h=>?_)
 refine and_h h (fun g=>(by subst hO;exact g)) (fun h=>?_)
 refine z0b hO ?_
 conv=>cbv
 refine z0o hO ?_
 conv=>cbv
 refine z0t hO h (fun g=>(by subst hO;exact g)) (fun h=>?_)
 conv=>cbv
 rw [b]
 exact⟨y7,y8,y9,y10,List.take y11.length (List.set y11 ((y4:Int).toNat) (putAt (List.getD y11 ((y4:Int).toNat) []) 0 [(CV.v (.int .i64 y17)),(CV.v (.int .i64 y18)),(CV.v (.string y19)),(CV.sl 3 y20 none),(CV.sl 5 y21 none)])),y22,y23,_,⟨(by subst hO;rfl),(by subst hO;rfl)⟩,h⟩
 conv=>cbv
 refine z0b hO ?_
 conv=>cbv
 refine z0c hO [.ref 2,.shut] (d_p52 fu O.len hN h) ?_
 intro e Q a b
 conv=>cbv
 refine⟨by subst a hO;rfl,?_⟩
 intro r bs d
 rw [b] at d
 clear a b h
 obtain⟨y24,y25,y26,_,⟨rfl,rfl⟩,h⟩:=d
 conv=>cbv
 refine br_h hO h (by subst hO;rfl) (fun k2 h=>?_) (fun k2 h=>?_)
 conv=>cbv
 refine z0c hO [.shut] (d_p57 fu O.len hN h) ?_
 intro e Q a b
 conv=>cbv
 refine⟨by subst a hO;rfl,?_⟩
 intro r bs d
 rw [b] at d
 clear a b h
 obtain⟨y27,y28,y29,y30,y31,_,⟨rfl,rfl⟩,h⟩:=d
 conv=>cbv
 rw [b]
 exact⟨y27,y28,y29,y30,y31,y25,y26,_,⟨(by subst hO;rfl),(by subst hO;rfl)⟩,h⟩
 conv=>cbv
 refine br_h hO h (by subst hO;rfl) (fun k3 h=>?_) (fun k3 h=>?_)
 conv=>cbv
 refine z0c hO [.ref 2,.shut] (d_p52 fu O.len hN h) ?_
 intro e Q a b
 conv=>cbv
 refine⟨by subst a hO;rfl,?_⟩
 intro r bs d
 rw [b] at d
 clear a b h
 obtain⟨y32,y33,y34,_,⟨rfl,rfl⟩,h⟩:=d
 conv=>cbv
 refine z0c hO [.shut] (d_p51 fu O.len hN h) ?_
 intro e Q a b
 conv=>cbv
 refine⟨by subst a hO;rfl,?_⟩
 intro r bs d
 rw [b] at d
 clear a b h
 obtain⟨y35,y36,y37,y38,y39,_,⟨rfl,rfl⟩,h⟩:=d
 conv=>cbv
 rw [b]
 exact⟨y35,y36,y37,y38,y39,y33,y34,_,⟨(by subst hO;rfl),(by subst hO;rfl)⟩,h⟩
 conv=>cbv
 refine br_h hO h (by subst hO;rfl) (fun k4 h=>?_) (fun k4 h=>?_)
 conv=>cbv
 refine z0c hO [.ref 2,.shut] (d_p39 fu O.len hN h) ?_
 intro e Q a b
 conv=>cbv
 refine⟨by subst a hO;rfl,?_⟩
 intro r bs d
 rw [b] at d
 clear a b h
 obtain⟨y40,y41,y42,y43,y44,_,⟨rfl,rfl⟩,h⟩:=d
 conv=>cbv
 refine z0c hO [.shut] (d_p49 fu O.len hN h) ?_
 intro e Q a b
 conv=>cbv
 refine⟨by subst a hO;rfl,?_⟩
 intro r bs d
 rw [b] at d
 clear a b h
 obtain⟨y45,y46,y47,y48,y49,_,⟨rfl,rfl⟩,h⟩:=d
 conv=>cbv
 rw [b]
 exact⟨y45,y46,y47,y48,y49,y43,y44,_,⟨(by subst hO;rfl),(by subst hO;rfl)⟩,h⟩
 conv=>cbv
 refine br_h hO h (by subst hO;rfl) (fun k5 h=>?_) (fun k5 h=>?_)
 conv=>cbv
 refine z0c hO [.ref 2,.shut] (d_p52 fu O.len hN h) ?_
 intro e Q a b
 conv=>cbv
 refine⟨by subst a hO;rfl,?_⟩
 intro r bs d
 rw [b] at d
 clear a b h
 obtain⟨y50,y51,y52,_,⟨rfl,rfl⟩,h⟩:=d
 conv=>cbv
 refine and_h h (fun g=>(by subst hO;exact g)) (fun h=>?_)
 refine and_h h (fun g=>(by subst hO;exact g)) (fun h=>?_)
 refine and_h h (fun g=>(by subst hO;exact g)) (fun h=>?_)
 refine and_h h (fun g=>(by subst hO;exact g)) (fun h=>?_)
 obtain⟨c53,hr,h⟩:=w5d h
 refine z0m hO _ (by subst hO;exact hr) ?_
 clear hr
 conv=>cbv
 refine z0c hO [.shut,.shut] (d_p107 fu O.len hN h) ?_
 intro e Q a b
 conv=>cbv
 refine⟨by subst a hO;rfl,?_⟩
 intro r bs d
 rw [b] at d
 clear a b h
 obtain⟨y54,y55,y56,y57,y58,_,_,⟨rfl,rfl⟩,h⟩:=d
 conv=>cbv
 rw [b]
 exact⟨y54,y55,y56,y57,y58,y51,y52,_,⟨(by subst hO;rfl),(by subst hO;rfl)⟩,h⟩
 conv=>cbv
 refine br_h hO h (by subst hO;rfl) (fun k6 h=>?_) (fun k6 h=>?_)
 conv=>cbv
 refine z0c hO [.shut,.shut] (d_p68 fu O.len hN h) ?_
 intro e Q a b
 conv=>cbv
 refine⟨by subst a hO;rfl,?_⟩
 intro r bs d
 rw [b] at d
 clear a b h
 obtain⟨y59,y60,y61,y62,y63,_,_,⟨rfl,rfl⟩,h⟩:=d
 conv=>cbv
 rw [b]
 exact⟨y59,y60,y61,y62,y63,y25,y26,_,⟨(by subst hO;rfl),(by subst hO;rfl)⟩,h⟩
 conv=>cbv
 refine z0b hO ?_
 conv=>cbv
 refine z0b hO ?_
 conv=>cbv
 refine z0b hO ?_
 conv=>cbv
 refine z0b hO ?_
 conv=>cbv
 refine z0b hO ?_
 conv=>cbv
 refine z0h hO tiA [[],[],[],[],[]] [(1,true,false),(0,false,false),(2,false,true),(3,false,true),(4,false,true)] (by kernel_rfl) ?_
 conv=>cbv
 refine z0c hO [.shut] (d_p57 fu O.len hN h) ?_
 intro e Q a b
 conv=>cbv
 refine⟨by subst a hO;rfl,?_⟩
 intro r bs d
 rw [b] at d
 clear a b h
 obtain⟨y64,y65,y66,y67,y68,_,⟨rfl,rfl⟩,h⟩:=d
 conv=>cbv
 refine agr hO rfl rfl ?_
 refine z0c hO [.shut,.shut,.shut] (d_p106 fu O.len hN h) ?_
 intro e Q a b
 conv=>cbv
 refine⟨by subst a hO;rfl,?_⟩
 intro r bs d
 rw [b] at d
 clear a b h
 obtain⟨y69,y70,y71,y72,y73,_,_,_,⟨rfl,rfl⟩,h⟩:=d
 conv=>cbv
 refine z0c hO [.shut,.shut] (d_p103 fu O.len hN h) ?_
 intro e Q a b
 conv=>cbv
 refine⟨by subst a hO;rfl,?_⟩
 intro r bs d
 rw [b] at d
 clear a b h
 obtain⟨y74,y75,y76,y77,y78,_,_,⟨rfl,rfl⟩,h⟩:=d
 conv=>cbv
 refine z0b hO ?_
 conv=>cbv
 rw [b]
 exact⟨y74,y75,y76,y77,y78,y25,y26,_,⟨(by subst hO;rfl),(by subst hO;rfl)⟩,h⟩
theorem dd_p58 (fu:Nat):D_p58 fu:=by
 induction fu with
 | zero=>unfold D_p58;intros;rename_i h;rw [p58] at h;exact h.elim
 | succ n ih =>
  exact (by unfold D_p58;intro K0 L hN x0 x1 x2 x3 x4 x5 x6 h;exact b_p58 n ih L hN (by rw [p58] at h;exact h))
theorem d_p58 (fu:Nat):D_p58 fu:=dd_p58 fu
theorem d_p15 (fu:Nat){K0:Int→Int→ByteArray→EL→EL→EL→Int→Prop}(L:EL→Nat)(hN:L=List.length){x0:EL}{x1:Int}(h:p15 False fu K0 x0 x1):Den Try.prog G0 15 [.ptr [.c (.sl 1 x0 none),.c (.v (.int .i64 x1))]] (fun r bs=>(∃ (y0 y1:Int) (y2:ByteArray) (y3 y4 y5:EL) (y6:Int),(r=.agg [.c (.v (.int .i64 y0)),.c (.v (.int .i64 y1)),.c (.v (.string y2)),.c (.sl 3 y3 none),.c (.sl 5 y4 none)]∧bs=[.ptr [.c (.sl 1 y5 none),.c (.v (.int .i64 y6))]])∧K0 y0 y1 y2 y3 y4 y5 y6)):=by
 obtain⟨O,hO⟩:∃ O,O=std 1 T G0 (Den Try.prog G0):=⟨_,rfl⟩
 have hLO:L=O.len:=by rw [hN,hO];rfl
 subst hLO
 refine den_h hO tiA mixed tabOk (fn:=Try.f15) (sh:=true) (by kernel_rfl) rfl rfl rfl rfl ?_
 intro Q b
 unfold p15 at h
 conv=>cbv
 refine z0c hO [.ref 2,.shut] (d_p52 fu O.len hN h) ?_
 intro e Q a b
 conv=>cbv
 refine⟨by subst a hO;rfl,?_⟩
 intro r bs d
 rw [b] at d
 clear a b h
 obtain⟨y1,y2,y3,_,⟨rfl,rfl⟩,h⟩:=d
 conv=>cbv
 refine z0f hO tiA h (by subst hO;rfl) [0,2,3] [0,3000,4000] [] (fun tm m=>∃ (j4:EL) (j5:Int) (j6:Int) (j7:Int) (j8:ByteArray) (j9:EL) (j10:EL),((tm=frame 0 45 [(0,.p 0 0 0),(2,.p 3000 1 0),(3,.p 4000 1 0)]∧m=⟨[(0,.blk 0 [.c (.sl 1 j4 none),.c (.v (.int .i64 j5))]),(3000,.blk 1 [.c (.v (.int .i64 0)),.c (.v (.int .i64 0)),.c (.v (.string ⟨#[]⟩)),.c (.sl 3 [] (some [])),.c (.sl 5 [] (some []))]),(4000,.blk 1 [.c (.v (.int .i64 j6)),.c (.v (.int .i64 j7)),.c (.v (.string j8)),.c (.sl 3 j9 none),.c (.sl 5 j10 none)])],2⟩))∧p15_1 False fu K0 j4 j5 j6 j7 j8 j9 j10) (fun k2 h L hL_1=>?_) (fun k2 h L hL_1=>?_) ?_
 conv=>cbv
 refine z0c hO [.ref 2,.shut] (d_p53 fu O.len hN h) ?_
 intro e Q a b
 conv=>cbv
 refine⟨by subst a hO;rfl,?_⟩
 intro r bs d
 rw [b] at d
 clear a b h
 obtain⟨y21,y22,y23,y24,y25,y26,y27,_,⟨rfl,rfl⟩,h⟩:=d
 conv=>cbv
 exact hL_1 _ _ ⟨y26,y27,y21,y22,y23,y24,y25,⟨(by (conv=>lhs;cbv)<;>(subst hO;rfl)),(by (conv=>lhs;cbv)<;>(subst hO;rfl))⟩,h⟩
 conv=>cbv
 refine z0f hO tiA h (by subst hO;rfl) [0,2,3] [0,3000,4000] [] (fun tm m=>∃ (j28:EL) (j29:Int) (j30:Int) (j31:Int) (j32:ByteArray) (j33:EL) (j34:EL),((tm=frame 0 45 [(0,.p 0 0 0),(2,.p 3000 1 0),(3,.p 4000 1 0)]∧m=⟨[(0,.blk 0 [.c (.sl 1 j28 none),.c (.v (.int .i64 j29))]),(3000,.blk 1 [.c (.v (.int .i64 0)),.c (.v (.int .i64 0)),.c (.v (.string ⟨#[]⟩)),.c (.sl 3 [] (some [])),.c (.sl 5 [] (some []))]),(4000,.blk 1 [.c (.v (.int .i64 j30)),.c (.v (.int .i64 j31)),.c (.v (.string j32)),.c (.sl 3 j33 none),.c (.sl 5 j34 none)])],2⟩))∧p15_2 False fu K0 j28 j29 j30 j31 j32 j33 j34) (fun k3 h L hL_2=>?_) (fun k3 h L hL_2=>?_) ?_
 conv=>cbv
 refine z0c hO [.ref 2,.shut] (d_p54b fu O.len hN h) ?_
 intro e Q a b
 conv=>cbv
 refine⟨by subst a hO;rfl,?_⟩
 intro r bs d
 rw [b] at d
 clear a b h
 obtain⟨y35,y36,y37,y38,y39,y40,y41,_,⟨rfl,rfl⟩,h⟩:=d
 conv=>cbv
 exact hL_2 _ _ ⟨y40,y41,y35,y36,y37,y38,y39,⟨(by (conv=>lhs;cbv)<;>(subst hO;rfl)),(by (conv=>lhs;cbv)<;>(subst hO;rfl))⟩,h⟩
 conv=>cbv
 refine z0f hO tiA h (by subst hO;rfl) [0,2,3] [0,3000,4000] [] (fun tm m=>∃ (j42:EL) (j43:Int) (j44:Int) (j45:Int) (j46:ByteArray) (j47:EL) (j48:EL),((tm=frame 0 45 [(0,.p 0 0 0),(2,.p 3000 1 0),(3,.p 4000 1 0)]∧m=⟨[(0,.blk 0 [.c (.sl 1 j42 none),.c (.v (.int .i64 j43))]),(3000,.blk 1 [.c (.v (.int .i64 0)),.c (.v (.int .i64 0)),.c (.v (.string ⟨#[]⟩)),.c (.sl 3 [] (some [])),.c (.sl 5 [] (some []))]),(4000,.blk 1 [.c (.v (.int .i64 j44)),.c (.v (.int .i64 j45)),.c (.v (.string j46)),.c (.sl 3 j47 none),.c (.sl 5 j48 none)])],2⟩))∧p15_3 False fu K0 j42 j43 j44 j45 j46 j47 j48) (fun k4 h L hL_3=>?_) (fun k4 h L hL_3=>?_) ?_
 conv=>cbv
 refine z0c hO [.ref 2,.shut] (d_p55 fu O.len hN h) ?_
 intro e Q a b
 conv=>cbv
 refine⟨by subst a hO;rfl,?_⟩
 intro r bs d
 rw [b] at d
 clear a b h
 obtain⟨y49,y50,y51,y52,y53,y54,y55,_,⟨rfl,rfl⟩,h⟩:=d
 conv=>cbv
 exact hL_3 _ _ ⟨y54,y55,y49,y50,y51,y52,y53,⟨(by (conv=>lhs;cbv)<;>(subst hO;rfl)),(by (conv=>lhs;cbv)<;>(subst hO;rfl))⟩,h⟩
 conv=>cbv
 refine z0f hO tiA h (by subst hO;rfl) [0,2,3] [0,3000,4000] [] (fun tm m=>∃ (j56:EL) (j57:Int) (j58:Int) (j59:Int) (j60:ByteArray) (j61:EL) (j62:EL),((tm=frame 0 45 [(0,.p 0 0 0),(2,.p 3000 1 0),(3,.p 4000 1 0)]∧m=⟨[(0,.blk 0 [.c (.sl 1 j56 none),.c (.v (.int .i64 j57))]),(3000,.blk 1 [.c (.v (.int .i64 0)),.c (.v (.int .i64 0)),.c (.v (.string ⟨#[]⟩)),.c (.sl 3 [] (some [])),.c (.sl 5 [] (some []))]),(4000,.blk 1 [.c (.v (.int .i64 j58)),.c (.v (.int .i64 j59)),.c (.v (.string j60)),.c (.sl 3 j61 none),.c (.sl 5 j62 none)])],2⟩))∧p15_4 False fu K0 j56 j57 j58 j59 j60 j61 j62) (fun k5 h L hL_4=>?_) (fun k5 h L hL_4=>?_) ?_
 conv=>cbv
 refine z0c hO [.ref 2,.shut] (d_p56 fu O.len hN h) ?_
 intro e Q a b
 conv=>cbv
 refine⟨by subst a hO;rfl,?_⟩
 intro r bs d
 rw [b] at d
 clear a b h
 obtain⟨y63,y64,y65,y66,y67,y68,y69,y70,y71,y72,y73,y74,_,⟨rfl,rfl⟩,h⟩:=d
 conv=>cbv
 exact hL_4 _ _ ⟨y73,y74,y63,y64,y65,y66,y67,⟨(by (conv=>lhs;cbv)<;>(subst hO;rfl)),(by (conv=>lhs;cbv)<;>(subst hO;rfl))⟩,h⟩
 conv=>cbv
 refine z0f hO tiA h (by subst hO;rfl) [0,2,3] [0,3000,4000] [] (fun tm m=>∃ (j75:EL) (j76:Int) (j77:Int) (j78:Int) (j79:ByteArray) (j80:EL) (j81:EL),((tm=frame 0 45 [(0,.p 0 0 0),(2,.p 3000 1 0),(3,.p 4000 1 0)]∧m=⟨[(0,.blk 0 [.c (.sl 1 j75 none),.c (.v (.int .i64 j76))]),(3000,.blk 1 [.c (.v (.int .i64 0)),.c (.v (.int .i64 0)),.c (.v (.string ⟨#[]⟩)),.c (.sl 3 [] (some [])),.c (.sl 5 [] (some []))]),(4000,.blk 1 [.c (.v (.int .i64 j77)),.c (.v (.int .i64 j78)),.c (.v (.string j79)),.c (.sl 3 j80 none),.c (.sl 5 j81 none)])],2⟩))∧p15_5 False fu K0 j75 j76 j77 j78 j79 j80 j81) (fun k6 h L hL_5=>?_) (fun k6 h L hL_5=>?_) ?_
 conv=>cbv
 refine z0c hO [.ref 2,.shut] (d_p56 fu O.len hN h) ?_
 intro e Q a b
 conv=>cbv
 refine⟨by subst a hO;rfl,?_⟩
 intro r bs d
 rw [b] at d
 clear a b h
 obtain⟨y82,y83,y84,y85,y86,y87,y88,y89,y90,y91,y92,y93,_,⟨rfl,rfl⟩,h⟩:=d
 conv=>cbv
 exact hL_5 _ _ ⟨y92,y93,y87,y88,y89,y90,y91,⟨(by (conv=>lhs;cbv)<;>(subst hO;rfl)),(by (conv=>lhs;cbv)<;>(subst hO;rfl))⟩,h⟩
 conv=>cbv
 refine z0c hO [.ref 2,.shut] (d_p52 fu O.len hN h) ?_
 intro e Q a b
 conv=>cbv
 refine⟨by subst a hO;rfl,?_⟩
 intro r bs d
 rw [b] at d
 clear a b h
 obtain⟨y94,y95,y96,_,⟨rfl,rfl⟩,h⟩:=d
 conv=>cbv
 refine and_h h (fun g=>(by subst hO;exact g)) (fun h=>?_)
 refine and_h h (fun g=>(by subst hO;exact g)) (fun h=>?_)
 refine and_h h (fun g=>(by subst hO;exact g)) (fun h=>?_)
 refine and_h h (fun g=>(by subst hO;exact g)) (fun h=>?_)
 obtain⟨c97,hr,h⟩:=w5d h
 refine z0m hO _ (by subst hO;exact hr) ?_
 clear hr
 conv=>cbv
 refine z0c hO [.shut] (d_p57 fu O.len hN h) ?_
 intro e Q a b
 conv=>cbv
 refine⟨by subst a hO;rfl,?_⟩
 intro r bs d
 rw [b] at d
 clear a b h
 obtain⟨y98,y99,y100,y101,y102,_,⟨rfl,rfl⟩,h⟩:=d
 conv=>cbv
 exact hL_5 _ _ ⟨y95,y96,y98,y99,y100,y101,y102,⟨(by (conv=>lhs;cbv)<;>(subst hO;rfl)),(by (conv=>lhs;cbv)<;>(subst hO;rfl))⟩,h⟩
 rintro tm m ⟨j75,j76,j77,j78,j79,j80,j81,hs,h⟩
 unfold p15_5 at h
 obtain⟨rfl,rfl⟩:=hs
 conv=>cbv
 exact hL_4 _ _ ⟨j75,j76,j77,j78,j79,j80,j81,⟨(by (conv=>lhs;cbv)<;>(subst hO;rfl)),(by (conv=>lhs;cbv)<;>(subst hO;rfl))⟩,h⟩
 rintro tm m ⟨j56,j57,j58,j59,j60,j61,j62,hs,h⟩
 unfold p15_4 at h
 obtain⟨rfl,rfl⟩:=hs
 conv=>cbv
 exact hL_3 _ _ ⟨j56,j57,j58,j59,j60,j61,j62,⟨(by (conv=>lhs;cbv)<;>(subst hO;rfl)),(by (conv=>lhs;cbv)<;>(subst hO;rfl))⟩,h⟩
 rintro tm m ⟨j42,j43,j44,j45,j46,j47,j48,hs,h⟩
 unfold p15_3 at h
 obtain⟨rfl,rfl⟩:=hs
 conv=>cbv
 exact hL_2 _ _ ⟨j42,j43,j44,j45,j46,j47,j48,⟨(by (conv=>lhs;cbv)<;>(subst hO;rfl)),(by (conv=>lhs;cbv)<;>(subst hO;rfl))⟩,h⟩
 rintro tm m ⟨j28,j29,j30,j31,j32,j33,j34,hs,h⟩
 unfold p15_2 at h
 obtain⟨rfl,rfl⟩:=hs
 conv=>cbv
 exact hL_1 _ _ ⟨j28,j29,j30,j31,j32,j33,j34,⟨(by (conv=>lhs;cbv)<;>(subst hO;rfl)),(by (conv=>lhs;cbv)<;>(subst hO;rfl))⟩,h⟩
 rintro tm m ⟨j4,j5,j6,j7,j8,j9,j10,hs,h⟩
 unfold p15_1 at h
 obtain⟨rfl,rfl⟩:=hs
 conv=>cbv
 refine z0c hO [.ref 2,.shut] (d_p52 fu O.len hN h) ?_
 intro e Q a b
 conv=>cbv
 refine⟨by subst a hO;rfl,?_⟩
 intro r bs d
 rw [b] at d
 clear a b h
 obtain⟨y11,y12,y13,_,⟨rfl,rfl⟩,h⟩:=d
 conv=>cbv
 refine br_h hO h (by subst hO;rfl) (fun k1 h=>?_) (fun k1 h=>?_)
 conv=>cbv
 refine z0c hO [.ref 2,.shut] (d_p58 fu O.len hN h) ?_
 intro e Q a b
 conv=>cbv
 refine⟨by subst a hO;rfl,?_⟩
 intro r bs d
 rw [b] at d
 clear a b h
 obtain⟨y14,y15,y16,y17,y18,y19,y20,_,⟨rfl,rfl⟩,h⟩:=d
 conv=>cbv
 rw [b]
 exact⟨y14,y15,y16,y17,y18,y19,y20,⟨(by subst hO;rfl),(by subst hO;rfl)⟩,h⟩
 conv=>cbv
 refine z0b hO ?_
 conv=>cbv
 rw [b]
 exact⟨j6,j7,j8,j9,j10,y12,y13,⟨(by subst hO;rfl),(by subst hO;rfl)⟩,h⟩
theorem d_p3 (fu:Nat){K0:Bool→Prop}(L:EL→Nat)(hN:L=List.length){x0:EL}(h:p3 False fu K0 x0):Den Try.prog G0 3 [.c (.sl 1 x0 none)] (fun r bs=>(∃ (y0:Bool) (o0:OV),(r=.c (.v (.bool y0))∧bs=[o0])∧K0 y0)):=by
 obtain⟨O,hO⟩:∃ O,O=std 0 T G0 (Den Try.prog G0):=⟨_,rfl⟩
 have hLO:L=O.len:=by rw [hN,hO];rfl
 subst hLO
 refine den_h hO tiA mixed tabOk (fn:=Try.f3) (sh:=true) (by kernel_rfl) rfl rfl rfl rfl ?_
 intro Q b
 unfold p3 at h
 conv=>cbv
 refine z0c hO [] (d_p13 fu O.len hN h) ?_
 intro e Q a b
 conv=>cbv
 refine⟨by subst a hO;rfl,?_⟩
 intro r bs d
 rw [b] at d
 clear a b h
 obtain⟨y1,⟨rfl,rfl⟩,h⟩:=d
 conv=>cbv
 refine br_h hO h (by subst hO;rfl) (fun k1 h=>?_) (fun k1 h=>?_)
 conv=>cbv
 rw [b]
 exact⟨false,_,⟨(by subst hO;rfl),(by subst hO;rfl)⟩,h⟩
 conv=>cbv
 refine z0b hO ?_
 conv=>cbv
 refine br_h hO h (by subst hO;rfl) (fun k2 h=>?_) (fun k2 h=>?_)
 conv=>cbv
 rw [b]
 exact⟨true,_,⟨(by subst hO;rfl),(by subst hO;rfl)⟩,h⟩
 conv=>cbv
 refine z0b hO ?_
 conv=>cbv
 refine z0r hO tiA [0,3,4,5] [41000,44000] [] (fun (n:Nat) tm m=>∃ (z2:EL) (z3:EL) (z4:Int),((z2=[]∧z3=[]∧tm=frame 0 73 [(0,.c (.sl 1 x0 none)),(3,.c (.sl 1 [] (some []))),(4,.c (.sl 5 [] (some []))),(5,.c (.v (.int .i64 z4)))]∧m=⟨[],1⟩)∨(tm=frame 0 73 [(0,.c (.sl 1 x0 none)),(3,.t 44000 0 (O.len z2)),(4,.t 41000 0 (O.len z3)),(5,.c (.v (.int .i64 z4)))]∧m=⟨[(41000,.arr 0 5 z3 none false),(44000,.arr 0 1 z2 none false)],1⟩))∧p3_3L False fu K0 x0 n z2 z3 z4) (fun n=>n) fu ⟨nilE,nilE,0,(.inl ⟨rfl,rfl,(by (conv=>lhs;cbv)<;>(subst hO;rfl)),(by (conv=>lhs;cbv)<;>(subst hO;rfl))⟩),h⟩ ?_
 rintro n1 tm m L ⟨z2,z3,z4,hs,h⟩ hLn1
 (cases n1 with
 | zero=>rw [p3_3L] at h;exact h.elim
 | succ n1 =>
 rw [p3_3L] at h
 unfold p3_3 at h
 rcases hs with hs | hs
 obtain⟨rfl,rfl,rfl,rfl⟩:=hs
 conv=>cbv
 refine br_h hO h (by subst hO;rfl) (fun k3 h=>?_) (fun k3 h=>?_)
 conv=>cbv
 refine z0b hO ?_
 conv=>cbv
 refine and_h h (fun g=>(by subst hO;exact g)) (fun h=>?_)
 refine and_h h (fun g=>(by subst hO;exact g)) (fun h=>?_)
 obtain⟨c5,hr,h⟩:=z5s h
 refine z0m hO _ (by subst hO;exact hr) ?_
 clear hr
 conv=>cbv
 refine br_h hO h (by subst hO;rfl) (fun k4 h=>?_) (fun k4 h=>?_)
 conv=>cbv
 rw [b]
 exact⟨true,_,⟨(by subst hO;rfl),(by subst hO;rfl)⟩,h⟩
 conv=>cbv
 refine z0b hO ?_
 conv=>cbv
 refine and_h h (fun g=>(by subst hO;exact g)) (fun h=>?_)
 refine and_h h (fun g=>(by subst hO;exact g)) (fun h=>?_)
 obtain⟨c6,hr,h⟩:=z5s h
 refine z0m hO _ (by subst hO;exact hr) ?_
 clear hr
 conv=>cbv
 refine z0c hO [.shut] (d_p14 fu O.len hN h) ?_
 intro e Q a b
 conv=>cbv
 refine⟨by subst a hO;rfl,?_⟩
 intro r bs d
 rw [b] at d
 clear a b h
 obtain⟨y7,y8,_,⟨rfl,rfl⟩,h⟩:=d
 conv=>cbv
 refine z0c hO [.ref 2] (d_p15 fu O.len hN h) ?_
 intro e Q a b
 conv=>cbv
 refine⟨by subst a hO;rfl,?_⟩
 intro r bs d
 rw [b] at d
 clear a b h
 obtain⟨y9,y10,y11,y12,y13,y14,y15,⟨rfl,rfl⟩,h⟩:=d
 conv=>cbv
 refine z0c hO [.shut] (d_p16 fu O.len hN h) ?_
 intro e Q a b
 conv=>cbv
 refine⟨by subst a hO;rfl,?_⟩
 intro r bs d
 rw [b] at d
 clear a b h
 obtain⟨y16,_,⟨rfl,rfl⟩,h⟩:=d
 conv=>cbv
 refine br_h hO h (by subst hO;rfl) (fun k5 h=>?_) (fun k5 h=>?_)
 conv=>cbv
 rw [b]
 exact⟨true,_,⟨(by subst hO;rfl),(by subst hO;rfl)⟩,h⟩
 conv=>cbv
 refine z0b hO ?_
 conv=>cbv
 refine z0h hO tiA [[],[],[],[]] [(0,true,false),(1,true,false),(4,true,false),(5,true,false),(2,false,false),(3,false,false),(6,false,true),(7,true,true),(8,true,true)] (by kernel_rfl) ?_
 conv=>cbv
 refine agr hO rfl rfl ?_
 refine z0t hO h (fun g=>(by subst hO;exact g)) (fun h=>?_)
 conv=>cbv
 refine and_h h (fun g=>(by subst hO;exact g)) (fun h=>?_)
 refine z4g hO (by subst hO;exact List.cons_ne_nil _ _) ?_
 conv=>cbv
 refine agr hO rfl rfl ?_
 refine z0c hO [.shut,.shut] (d_p17 fu O.len hN h) ?_
 intro e Q a b
 conv=>cbv
 refine⟨by subst a hO;rfl,?_⟩
 intro r bs d
 rw [b] at d
 clear a b h
 obtain⟨y17,_,_,⟨rfl,rfl⟩,h⟩:=d
 conv=>cbv
 refine z0b hO ?_
 conv=>cbv
 exact hLn1 n1 _ _ (Nat.lt_succ_self n1) ⟨y17,(nilE++(List.take 1 [[(CV.v (.int .i64 y9)),(CV.v (.int .i64 y10)),(CV.v (.string y11)),(CV.sl 3 y12 none),(CV.sl 5 y13 none)]])),z0d .add .i64 z4 1,(.inr ⟨(by (conv=>lhs;cbv)<;>(subst hO;rfl)),(by (conv=>lhs;cbv)<;>(subst hO;rfl))⟩),h⟩
 conv=>cbv
 refine z0r hO tiA [3,4,7] [] [] (fun (n:Nat) tm m=>∃ (z18:EL) (z19:Int),((z18=[]∧tm=frame 0 73 [(3,.c (.sl 1 [] (some []))),(4,.c (.sl 5 [] (some []))),(7,.c (.v (.int .i64 z19)))]∧m=⟨[],1⟩))∧p3_2L False fu K0 nilE n z18 z19) (fun n=>n) fu ⟨nilE,0,⟨rfl,(by (conv=>lhs;cbv)<;>(subst hO;rfl)),(by (conv=>lhs;cbv)<;>(subst hO;rfl))⟩,h⟩ ?_
 rintro n2 tm m L ⟨z18,z19,hs,h⟩ hLn2
 (cases n2 with
 | zero=>rw [p3_2L] at h;exact h.elim
 | succ n2 =>
 rw [p3_2L] at h
 unfold p3_2 at h
 obtain⟨rfl,rfl,rfl⟩:=hs
 conv=>cbv
 refine br_h hO h (by subst hO;rfl) (fun k6 h=>?_) (fun k6 h=>?_)
 conv=>cbv
 refine z0b hO ?_
 conv=>cbv
 refine z0c hO [.shut] (d_p18 fu O.len hN h) ?_
 intro e Q a b
 conv=>cbv
 refine⟨by subst a hO;rfl,?_⟩
 intro r bs d
 rw [b] at d
 clear a b h
 obtain⟨y20,y21,y22,y23,y24,y25,y26,_,⟨rfl,rfl⟩,h⟩:=d
 conv=>cbv
 refine z0v hO tiA [[],[]] [(0,true,false),(1,true,false),(2,true,false),(3,true,false),(4,true,false),(5,true,false),(6,true,false),(7,true,false),(8,false,true),(9,true,true),(10,true,true)] (by kernel_rfl) [3,4,7,9,66] [] [] (fun tm m=>∃ (j27:Bool),((tm=frame 0 73 [(3,.c (.sl 1 [] (some []))),(4,.c (.sl 5 [] (some []))),(7,.c (.v (.int .i64 z19))),(9,.c (.v (.int .i64 y25))),(66,.c (.v (.bool j27)))]∧m=⟨[],1⟩))∧p3_1 False fu K0 (p3_2L False fu K0 nilE n2) nilE z19 y25 j27) (fun L hL_1=>?_) ?_
 conv=>cbv
 refine br_h hO h (by subst hO;rfl) (fun k8 h=>?_) (fun k8 h=>?_)
 conv=>cbv
 refine br_t hO k8 ?_
 conv=>cbv
 refine br_t hO k8 ?_
 conv=>cbv
 refine br_t hO k8 ?_
 conv=>cbv
 refine br_t hO k8 ?_
 conv=>cbv
 refine br_t hO k8 ?_
 conv=>cbv
 refine br_t hO k8 ?_
 conv=>cbv
 refine br_t hO k8 ?_
 conv=>cbv
 exact hL_1 _ _ ⟨true,⟨(by (conv=>lhs;cbv)<;>(subst hO;rfl)),(by (conv=>lhs;cbv)<;>(subst hO;rfl))⟩,h⟩
 conv=>cbv
 refine br_f hO k8 ?_
 conv=>cbv
 refine br_f hO k8 ?_
 conv=>cbv
 refine br_f hO k8 ?_
 conv=>cbv
 first | (obtain⟨hd1,h⟩:=z0q h;obtain⟨hd2,h⟩:=z0q h;exact absurd (Int.lt_of_le_of_lt hd1 hd2) (Int.lt_irrefl 0)) | (obtain⟨_,h⟩:=z0q h;obtain⟨hd1,h⟩:=z0q h;obtain⟨hd2,h⟩:=z0q h;exact absurd (Int.lt_of_le_of_lt hd1 hd2) (Int.lt_irrefl 0))
 rintro tm m ⟨j27,hs,h⟩
 unfold p3_1 at h
 obtain⟨rfl,rfl⟩:=hs
 conv=>cbv
 refine br_h hO h (by subst hO;rfl) (fun k7 h=>?_) (fun k7 h=>?_)
 conv=>cbv
 rw [b]
 exact⟨false,_,⟨(by subst hO;rfl),(by subst hO;rfl)⟩,h⟩
 conv=>cbv
 refine z0b hO ?_
 conv=>cbv
 refine and_h h (fun g=>(by subst hO;exact g)) (fun h=>?_)
 refine and_h h (fun g=>(by subst hO;exact g)) (fun h=>?_)
 refine and_h h (fun g=>(by subst hO;exact g)) (fun h=>?_)
 exact hLn2 n2 _ _ (Nat.lt_succ_self n2) ⟨List.drop ((y25:Int).toNat) (List.take (((nilE.length:Nat):Int).toNat) nilE),z0d .add .i64 z19 1,⟨(by simp [nilE]),(by (conv=>lhs;cbv)<;>(subst hO;simp only [std,List.take_nil,List.drop_nil,List.append_nil];rfl)),(by (conv=>lhs;cbv)<;>(subst hO;rfl))⟩,h⟩
 conv=>cbv
 rw [b]
 exact⟨(z0a .eql ((nilE.length:Nat):Int) 0),_,⟨(by subst hO;rfl),(by subst hO;rfl)⟩,h⟩)
 obtain⟨rfl,rfl⟩:=hs
 conv=>cbv
 refine br_h hO h (by subst hO;rfl) (fun k3 h=>?_) (fun k3 h=>?_)
 conv=>cbv
 refine z0b hO ?_
 conv=>cbv
 refine and_h h (fun g=>(by subst hO;exact g)) (fun h=>?_)
 refine and_h h (fun g=>(by subst hO;exact g)) (fun h=>?_)
 obtain⟨c5,hr,h⟩:=z5s h
 refine z0m hO _ (by subst hO;exact hr) ?_
 clear hr
 conv=>cbv
 refine br_h hO h (by subst hO;rfl) (fun k4 h=>?_) (fun k4 h=>?_)
 conv=>cbv
 rw [b]
 exact⟨true,_,⟨(by subst hO;rfl),(by subst hO;rfl)⟩,h⟩
 conv=>cbv
 refine z0b hO ?_
 conv=>cbv
 refine and_h h (fun g=>(by subst hO;exact g)) (fun h=>?_)
 refine and_h h (fun g=>(by subst hO;exact g)) (fun h=>?_)
 obtain⟨c6,hr,h⟩:=z5s h
 refine z0m hO _ (by subst hO;exact hr) ?_
 clear hr
 conv=>cbv
 refine z0c hO [.shut] (d_p14 fu O.len hN h) ?_
 intro e Q a b
 conv=>cbv
 refine⟨by subst a hO;rfl,?_⟩
 intro r bs d
 rw [b] at d
 clear a b h
 obtain⟨y7,y8,_,⟨rfl,rfl⟩,h⟩:=d
 conv=>cbv
 refine z0c hO [.ref 2] (d_p15 fu O.len hN h) ?_
 intro e Q a b
 conv=>cbv
 refine⟨by subst a hO;rfl,?_⟩
 intro r bs d
 rw [b] at d
 clear a b h
 obtain⟨y9,y10,y11,y12,y13,y14,y15,⟨rfl,rfl⟩,h⟩:=d
 conv=>cbv
 refine z0c hO [.shut] (d_p16 fu O.len hN h) ?_
 intro e Q a b
 conv=>cbv
 refine⟨by subst a hO;rfl,?_⟩
 intro r bs d
 rw [b] at d
 clear a b h
 obtain⟨y16,_,⟨rfl,rfl⟩,h⟩:=d
 conv=>cbv
 refine br_h hO h (by subst hO;rfl) (fun k5 h=>?_) (fun k5 h=>?_)
 conv=>cbv
 rw [b]
 exact⟨true,_,⟨(by subst hO;rfl),(by subst hO;rfl)⟩,h⟩
 conv=>cbv
 refine z0b hO ?_
 conv=>cbv
 refine z0h hO tiA [[41000],[41000],[],[]] [(0,true,false),(1,true,false),(4,true,false),(5,true,false),(2,false,false),(3,false,false),(6,false,true),(7,true,true),(8,true,true)] (by kernel_rfl) ?_
 conv=>cbv
 refine agr hO rfl rfl ?_
 refine z0t hO h (fun g=>(by subst hO;exact g)) (fun h=>?_)
 conv=>cbv
 refine⟨(by subst hO;rfl),?_⟩
 refine and_h h (fun g=>(by subst hO;exact g)) (fun h=>?_)
 refine agr hO rfl rfl ?_
 refine z0c hO [.shut,.shut] (d_p17 fu O.len hN h) ?_
 intro e Q a b
 conv=>cbv
 refine z0o hO ?_
 conv=>cbv
 refine⟨by subst a hO;rfl,?_⟩
 intro r bs d
 rw [b] at d
 clear a b h
 obtain⟨y17,_,_,⟨rfl,rfl⟩,h⟩:=d
 conv=>cbv
 refine z0b hO ?_
 conv=>cbv
 exact hLn1 n1 _ _ (Nat.lt_succ_self n1) ⟨y17,(z3++(List.take 1 [[(CV.v (.int .i64 y9)),(CV.v (.int .i64 y10)),(CV.v (.string y11)),(CV.sl 3 y12 none),(CV.sl 5 y13 none)]])),z0d .add .i64 z4 1,(.inr ⟨(by (conv=>lhs;cbv)<;>(subst hO;rfl)),(by (conv=>lhs;cbv)<;>(subst hO;rfl))⟩),h⟩
 conv=>cbv
 refine z0r hO tiA [3,4,7] [41000,44000] [] (fun (n:Nat) tm m=>∃ (z18:EL) (z19:Int),((tm=frame 0 73 [(3,.t 44000 0 (O.len z18)),(4,.t 41000 0 (O.len z3)),(7,.c (.v (.int .i64 z19)))]∧m=⟨[(41000,.arr 0 5 z3 none false),(44000,.arr 0 1 z18 none false)],1⟩)∨(∃ (w44000:EL),tm=frame 0 73 [(3,.c (.sl 1 z18 none)),(4,.t 41000 0 (O.len z3)),(7,.c (.v (.int .i64 z19)))]∧m=⟨[(41000,.arr 0 5 z3 none false),(44000,.arr 0 1 w44000 none true)],1⟩)∨(tm=frame 0 73 [(3,.c (.sl 1 z18 none)),(4,.t 41000 0 (O.len z3)),(7,.c (.v (.int .i64 z19)))]∧m=⟨[(41000,.arr 0 5 z3 none false)],1⟩))∧p3_2L False fu K0 z3 n z18 z19) (fun n=>n) fu ⟨z2,0,(.inl ⟨(by (conv=>lhs;cbv)<;>(subst hO;rfl)),(by (conv=>lhs;cbv)<;>(subst hO;rfl))⟩),h⟩ ?_
 rintro n2 tm m L ⟨z18,z19,hs,h⟩ hLn2
 (cases n2 with
 | zero=>rw [p3_2L] at h;exact h.elim
 | succ n2 =>
 rw [p3_2L] at h
 unfold p3_2 at h
 rcases hs with hs | hs | hs
 obtain⟨rfl,rfl⟩:=hs
 conv=>cbv
 refine alt_l hO ?_
 conv=>cbv
 refine br_h hO h (by subst hO;rfl) (fun k6 h=>?_) (fun k6 h=>?_)
 conv=>cbv
 refine z0b hO ?_
 conv=>cbv
 refine alt_l hO ?_
 conv=>cbv
 refine z0c hO [.shut] (d_p18 fu O.len hN h) ?_
 intro e Q a b
 conv=>cbv
 refine z0o hO ?_
 conv=>cbv
 refine⟨by subst a hO;rfl,?_⟩
 intro r bs d
 rw [b] at d
 clear a b h
 obtain⟨y20,y21,y22,y23,y24,y25,y26,_,⟨rfl,rfl⟩,h⟩:=d
 conv=>cbv
 refine z0v hO tiA [[],[]] [(0,true,false),(1,true,false),(2,true,false),(3,true,false),(4,true,false),(5,true,false),(6,true,false),(7,true,false),(8,false,true),(9,true,true),(10,true,true)] (by kernel_rfl) [3,4,7,9,66] [41000,44000] [] (fun tm m=>∃ (j27:Bool),((tm=frame 0 73 [(3,.t 44000 0 (O.len z18)),(4,.t 41000 0 (O.len z3)),(7,.c (.v (.int .i64 z19))),(9,.c (.v (.int .i64 y25))),(66,.c (.v (.bool j27)))]∧m=⟨[(41000,.arr 0 5 z3 none false),(44000,.arr 0 1 z18 none true)],1⟩))∧p3_1 False fu K0 (p3_2L False fu K0 z3 n2) z18 z19 y25 j27) (fun L hL_1=>?_) ?_
 conv=>cbv
 refine br_h hO h (by subst hO;rfl) (fun k8 h=>?_) (fun k8 h=>?_)
 conv=>cbv
 refine br_t hO k8 ?_
 conv=>cbv
 refine br_t hO k8 ?_
 conv=>cbv
 refine br_t hO k8 ?_
 conv=>cbv
 refine br_t hO k8 ?_
 conv=>cbv
 refine br_t hO k8 ?_
 conv=>cbv
 refine br_t hO k8 ?_
 conv=>cbv
 refine br_t hO k8 ?_
 conv=>cbv
 exact hL_1 _ _ ⟨true,⟨(by (conv=>lhs;cbv)<;>(subst hO;rfl)),(by (conv=>lhs;cbv)<;>(subst hO;rfl))⟩,h⟩
 conv=>cbv
 refine br_f hO k8 ?_
 conv=>cbv
 refine br_f hO k8 ?_
 conv=>cbv
 refine br_f hO k8 ?_
 conv=>cbv
 refine⟨(by subst hO;exact Nat.le_refl _),?_⟩
 refine and_h h (fun g=>(by subst hO;exact g)) (fun h=>?_)
 refine and_h h (fun g=>(by subst hO;exact g)) (fun h=>?_)
 refine br_f hO k8 ?_
 conv=>cbv
 refine and_h h (fun g=>(by subst hO;exact g)) (fun h=>?_)
 obtain⟨c28,c29,c30,c31,c32,hr,h⟩:=z0e h
 refine z0m hO _ (by subst hO;exact hr) ?_
 clear hr
 conv=>cbv
 refine br_f hO k8 ?_
 conv=>cbv
 refine z0c hO [.shut,.shut] (d_p19 fu O.len hN h) ?_
 intro e Q a b
 conv=>cbv
 refine⟨by subst a hO;rfl,?_⟩
 intro r bs d
 rw [b] at d
 clear a b h
 obtain⟨y33,_,_,⟨rfl,rfl⟩,h⟩:=d
 conv=>cbv
 refine br_f hO k8 ?_
 conv=>cbv
 refine br_f hO k8 ?_
 conv=>cbv
 exact hL_1 _ _ ⟨(!y33),⟨(by (conv=>lhs;cbv)<;>(subst hO;rfl)),(by (conv=>lhs;cbv)<;>(subst hO;rfl))⟩,h⟩
 rintro tm m ⟨j27,hs,h⟩
 unfold p3_1 at h
 obtain⟨rfl,rfl⟩:=hs
 conv=>cbv
 refine br_h hO h (by subst hO;rfl) (fun k7 h=>?_) (fun k7 h=>?_)
 conv=>cbv
 rw [b]
 exact⟨false,_,⟨(by subst hO;rfl),(by subst hO;rfl)⟩,h⟩
 conv=>cbv
 refine z0b hO ?_
 conv=>cbv
 refine alt_l hO ?_
 conv=>cbv
 refine⟨(by subst hO;exact Nat.le_refl _),?_⟩
 refine and_h h (fun g=>(by subst hO;exact g)) (fun h=>?_)
 refine and_h h (fun g=>(by subst hO;exact g)) (fun h=>?_)
 refine and_h h (fun g=>(by subst hO;exact g)) (fun h=>?_)
 exact hLn2 n2 _ _ (Nat.lt_succ_self n2) ⟨List.drop ((y25:Int).toNat) (List.take (((z18.length:Nat):Int).toNat) z18),z0d .add .i64 z19 1,(.inr (.inl ⟨z18,(by (conv=>lhs;cbv)<;>(subst hO;rfl)),(by (conv=>lhs;cbv)<;>(subst hO;rfl))⟩)),h⟩
 conv=>cbv
 refine alt_l hO ?_
 conv=>cbv
 rw [b]
 exact⟨(z0a .eql ((z18.length:Nat):Int) 0),_,⟨(by subst hO;rfl),(by subst hO;rfl)⟩,h⟩
 obtain⟨w44000,rfl,rfl⟩:=hs
 conv=>cbv
 refine alt_l hO ?_
 conv=>cbv
 refine br_h hO h (by subst hO;rfl) (fun k6 h=>?_) (fun k6 h=>?_)
 conv=>cbv
 refine z0b hO ?_
 conv=>cbv
 refine z0c hO [.shut] (d_p18 fu O.len hN h) ?_
 intro e Q a b
 conv=>cbv
 refine⟨by subst a hO;rfl,?_⟩
 intro r bs d
 rw [b] at d
 clear a b h
 obtain⟨y20,y21,y22,y23,y24,y25,y26,_,⟨rfl,rfl⟩,h⟩:=d
 conv=>cbv
 refine z0v hO tiA [[],[]] [(0,true,false),(1,true,false),(2,true,false),(3,true,false),(4,true,false),(5,true,false),(6,true,false),(7,true,false),(8,false,true),(9,true,true),(10,true,true)] (by kernel_rfl) [3,4,7,9,66] [41000] [] (fun tm m=>∃ (j27:Bool),((tm=frame 0 73 [(3,.c (.sl 1 z18 none)),(4,.t 41000 0 (O.len z3)),(7,.c (.v (.int .i64 z19))),(9,.c (.v (.int .i64 y25))),(66,.c (.v (.bool j27)))]∧m=⟨[(41000,.arr 0 5 z3 none false)],1⟩))∧p3_1 False fu K0 (p3_2L False fu K0 z3 n2) z18 z19 y25 j27) (fun L hL_1=>?_) ?_
 conv=>cbv
 refine br_h hO h (by subst hO;rfl) (fun k8 h=>?_) (fun k8 h=>?_)
 conv=>cbv
 refine br_t hO k8 ?_
 conv=>cbv
 refine br_t hO k8 ?_
 conv=>cbv
 refine br_t hO k8 ?_
 conv=>cbv
 refine br_t hO k8 ?_
 conv=>cbv
 refine br_t hO k8 ?_
 conv=>cbv
 refine br_t hO k8 ?_
 conv=>cbv
 refine br_t hO k8 ?_
 conv=>cbv
 exact hL_1 _ _ ⟨true,⟨(by (conv=>lhs;cbv)<;>(subst hO;rfl)),(by (conv=>lhs;cbv)<;>(subst hO;rfl))⟩,h⟩
 conv=>cbv
 refine br_f hO k8 ?_
 conv=>cbv
 refine br_f hO k8 ?_
 conv=>cbv
 refine br_f hO k8 ?_
 conv=>cbv
 refine⟨(by subst hO;exact Nat.le_refl _),?_⟩
 refine and_h h (fun g=>(by subst hO;exact g)) (fun h=>?_)
 refine and_h h (fun g=>(by subst hO;exact g)) (fun h=>?_)
 refine br_f hO k8 ?_
 conv=>cbv
 refine and_h h (fun g=>(by subst hO;exact g)) (fun h=>?_)
 obtain⟨c28,c29,c30,c31,c32,hr,h⟩:=z0e h
 refine z0m hO _ (by subst hO;exact hr) ?_
 clear hr
 conv=>cbv
 refine br_f hO k8 ?_
 conv=>cbv
 refine z0c hO [.shut,.shut] (d_p19 fu O.len hN h) ?_
 intro e Q a b
 conv=>cbv
 refine⟨by subst a hO;rfl,?_⟩
 intro r bs d
 rw [b] at d
 clear a b h
 obtain⟨y33,_,_,⟨rfl,rfl⟩,h⟩:=d
 conv=>cbv
 refine br_f hO k8 ?_
 conv=>cbv
 refine br_f hO k8 ?_
 conv=>cbv
 exact hL_1 _ _ ⟨(!y33),⟨(by (conv=>lhs;cbv)<;>(subst hO;rfl)),(by (conv=>lhs;cbv)<;>(subst hO;rfl))⟩,h⟩
 rintro tm m ⟨j27,hs,h⟩
 unfold p3_1 at h
 obtain⟨rfl,rfl⟩:=hs
 conv=>cbv
 refine br_h hO h (by subst hO;rfl) (fun k7 h=>?_) (fun k7 h=>?_)
 conv=>cbv
 rw [b]
 exact⟨false,_,⟨(by subst hO;rfl),(by subst hO;rfl)⟩,h⟩
 conv=>cbv
 refine z0b hO ?_
 conv=>cbv
 refine and_h h (fun g=>(by subst hO;exact g)) (fun h=>?_)
 refine and_h h (fun g=>(by subst hO;exact g)) (fun h=>?_)
 refine and_h h (fun g=>(by subst hO;exact g)) (fun h=>?_)
 exact hLn2 n2 _ _ (Nat.lt_succ_self n2) ⟨List.drop ((y25:Int).toNat) (List.take (((z18.length:Nat):Int).toNat) z18),z0d .add .i64 z19 1,(.inr (.inr ⟨(by (conv=>lhs;cbv)<;>(subst hO;rfl)),(by (conv=>lhs;cbv)<;>(subst hO;rfl))⟩)),h⟩
 conv=>cbv
 rw [b]
 exact⟨(z0a .eql ((z18.length:Nat):Int) 0),_,⟨(by subst hO;rfl),(by subst hO;rfl)⟩,h⟩
 obtain⟨rfl,rfl⟩:=hs
 conv=>cbv
 refine alt_l hO ?_
 conv=>cbv
 refine br_h hO h (by subst hO;rfl) (fun k6 h=>?_) (fun k6 h=>?_)
 conv=>cbv
 refine z0b hO ?_
 conv=>cbv
 refine z0c hO [.shut] (d_p18 fu O.len hN h) ?_
 intro e Q a b
 conv=>cbv
 refine⟨by subst a hO;rfl,?_⟩
 intro r bs d
 rw [b] at d
 clear a b h
 obtain⟨y20,y21,y22,y23,y24,y25,y26,_,⟨rfl,rfl⟩,h⟩:=d
 conv=>cbv
 refine z0v hO tiA [[],[]] [(0,true,false),(1,true,false),(2,true,false),(3,true,false),(4,true,false),(5,true,false),(6,true,false),(7,true,false),(8,false,true),(9,true,true),(10,true,true)] (by kernel_rfl) [3,4,7,9,66] [41000] [] (fun tm m=>∃ (j27:Bool),((tm=frame 0 73 [(3,.c (.sl 1 z18 none)),(4,.t 41000 0 (O.len z3)),(7,.c (.v (.int .i64 z19))),(9,.c (.v (.int .i64 y25))),(66,.c (.v (.bool j27)))]∧m=⟨[(41000,.arr 0 5 z3 none false)],1⟩))∧p3_1 False fu K0 (p3_2L False fu K0 z3 n2) z18 z19 y25 j27) (fun L hL_1=>?_) ?_
 conv=>cbv
 refine br_h hO h (by subst hO;rfl) (fun k8 h=>?_) (fun k8 h=>?_)
 conv=>cbv
 refine br_t hO k8 ?_
 conv=>cbv
 refine br_t hO k8 ?_
 conv=>cbv
 refine br_t hO k8 ?_
 conv=>cbv
 refine br_t hO k8 ?_
 conv=>cbv
 refine br_t hO k8 ?_
 conv=>cbv
 refine br_t hO k8 ?_
 conv=>cbv
 refine br_t hO k8 ?_
 conv=>cbv
 exact hL_1 _ _ ⟨true,⟨(by (conv=>lhs;cbv)<;>(subst hO;rfl)),(by (conv=>lhs;cbv)<;>(subst hO;rfl))⟩,h⟩
 conv=>cbv
 refine br_f hO k8 ?_
 conv=>cbv
 refine br_f hO k8 ?_
 conv=>cbv
 refine br_f hO k8 ?_
 conv=>cbv
 refine⟨(by subst hO;exact Nat.le_refl _),?_⟩
 refine and_h h (fun g=>(by subst hO;exact g)) (fun h=>?_)
 refine and_h h (fun g=>(by subst hO;exact g)) (fun h=>?_)
 refine br_f hO k8 ?_
 conv=>cbv
 refine and_h h (fun g=>(by subst hO;exact g)) (fun h=>?_)
 obtain⟨c28,c29,c30,c31,c32,hr,h⟩:=z0e h
 refine z0m hO _ (by subst hO;exact hr) ?_
 clear hr
 conv=>cbv
 refine br_f hO k8 ?_
 conv=>cbv
 refine z0c hO [.shut,.shut] (d_p19 fu O.len hN h) ?_
 intro e Q a b
 conv=>cbv
 refine⟨by subst a hO;rfl,?_⟩
 intro r bs d
 rw [b] at d
 clear a b h
 obtain⟨y33,_,_,⟨rfl,rfl⟩,h⟩:=d
 conv=>cbv
 refine br_f hO k8 ?_
 conv=>cbv
 refine br_f hO k8 ?_
 conv=>cbv
 exact hL_1 _ _ ⟨(!y33),⟨(by (conv=>lhs;cbv)<;>(subst hO;rfl)),(by (conv=>lhs;cbv)<;>(subst hO;rfl))⟩,h⟩
 rintro tm m ⟨j27,hs,h⟩
 unfold p3_1 at h
 obtain⟨rfl,rfl⟩:=hs
 conv=>cbv
 refine br_h hO h (by subst hO;rfl) (fun k7 h=>?_) (fun k7 h=>?_)
 conv=>cbv
 rw [b]
 exact⟨false,_,⟨(by subst hO;rfl),(by subst hO;rfl)⟩,h⟩
 conv=>cbv
 refine z0b hO ?_
 conv=>cbv
 refine and_h h (fun g=>(by subst hO;exact g)) (fun h=>?_)
 refine and_h h (fun g=>(by subst hO;exact g)) (fun h=>?_)
 refine and_h h (fun g=>(by subst hO;exact g)) (fun h=>?_)
 exact hLn2 n2 _ _ (Nat.lt_succ_self n2) ⟨List.drop ((y25:Int).toNat) (List.take (((z18.length:Nat):Int).toNat) z18),z0d .add .i64 z19 1,(.inr (.inr ⟨(by (conv=>lhs;cbv)<;>(subst hO;rfl)),(by (conv=>lhs;cbv)<;>(subst hO;rfl))⟩)),h⟩
 conv=>cbv
 rw [b]
 exact⟨(z0a .eql ((z18.length:Nat):Int) 0),_,⟨(by subst hO;rfl),(by subst hO;rfl)⟩,h⟩))
end Go.Proofs.Ythncmjlcmlmnmaa
namespace Go.Proofs.Ythncmjlcmlmnmaa.V
open Go Go.RowKit Go.ChangeShapes
def w3c (P:Program):Nat→List Field→Nat→Bool
 | o,[],e=>o == e
 | o,f :: fs,e=>f.offset == o && w3c P (o + P.cellsOf f.type) fs e
def w4l (P:Program) (l:List TypeId):Bool:=l.all fun t=>match P.underlying t with
 | some .bool | some (.int _) | some .string=>true
 | some (.slice e)=>l.contains e && decide (0 < P.cellsOf e)
 | some (.struct fs)=>fs.toList.all (fun f=>l.contains f.type) && w3c P 0 fs.toList (P.cellsOf t)
 | _=>false
def ShpL (shp:TypeId→List CV→Prop):List TypeId→List CV→Prop
 | [],ys=>ys=[]
 | t :: ts,ys=>∃ a b,ys=a++b∧shp t a∧ShpL shp ts b
def Shp (P:Program):Nat→TypeId→List CV→Prop
 | 0,_,_=>False
 | n + 1,t,ys=>match P.underlying t with
  | some .bool=>∃ b,ys=[.v (.bool b)]
  | some (.int k)=>∃ z,ys=[.v (.int k z)]∧(Lit.int k z).wf=true
  | some .string=>∃ s:ByteArray,ys=[.v (.string s)]∧s.size≤maxLen
  | some (.slice e)=>∃ es:List (List CV),ys=[.sl (P.cellsOf e) es none]∧es.length≤maxLen∧∀ r ∈ es,Shp P n e r
  | some (.struct fs)=>ShpL (Shp P n) (fs.toList.map (·.type)) ys
  | _=>False
section
variable {H:Type} {enc:TypeId × Value→H} {P:Program} {w:World} {base:Nat} {spare:Nat→Bool} {held:Bool}
def RowR (w:World) (ys:List CV) (cs:List Value):Prop:=ys.length=cs.length∧∀ (i:Nat) y u,ys[i]?=some y→cs[i]?=some u→RelC (allS w) w y u
theorem RowR.append {w:World} {a b:List CV} {c d:List Value} (h:RowR w a c) (k:RowR w b d):RowR w (a++b) (c++d):=by
 refine⟨by simp [h.1,k.1],fun i y u hy hu=>?_⟩
 rw [List.getElem?_append] at hy hu
 rw [h.1] at hy
 split at hy
 ·rename_i hi;rw [if_pos hi] at hu;exact h.2 i y u hy hu
 ·rename_i hi;rw [if_neg hi] at hu;exact k.2 _ y u hy hu
theorem w9q {w:World} {a:Addr} {v:Value} (h:w.cell? a=some v):a.block < w.heap.size∧a.spot=none:=by
 unfold World.cell? at h
 split at h
 ·rename_i hh
  refine⟨(Array.getElem?_eq_some_iff.1 hh).1,?_⟩
  split at h
  ·simp at h
  ·rename_i hs;simpa using hs
 ·simp at h
theorem z9v {n:Nat} (cs:List Value):∀ (fs:List Field) (o:Nat),w3c P o fs cs.length=true →
  (∀ f ∈ fs,∃ ys,RowR w ys ((cs.drop f.offset).take (P.cellsOf f.type))∧Shp P n f.type ys)→∃ ys,RowR w ys (cs.drop o)∧ShpL (Shp P n) (fs.map (·.type)) ys
 | [],o,hc,_=>by
  simp [w3c] at hc
  exact⟨[],⟨by simp [hc],by simp⟩,rfl⟩
 | f :: fs,o,hc,hf=>by
  simp only [w3c,Bool.and_eq_true,beq_iff_eq] at hc
  obtain⟨ho,hc⟩:=hc
  obtain⟨a,ha,sa⟩:=hf f (by simp)
  obtain⟨b,hb,sb⟩:=z9v cs fs _ hc (fun g hg=>hf g (by simp [hg]))
  rw [ho] at ha
  refine⟨a++b,?_,a,b,rfl,sa,sb⟩
  have:=ha.append hb
  rwa [← List.drop_drop,List.take_append_drop] at this
theorem w3p {l:List TypeId} (hl:w4l P l=true):∀ (n:Nat) (t:TypeId) (cs:List Value) (x:DataW H × List MemPlace),t ∈ l→DataW.trod enc P w base spare held n t cs=some x →
  ∃ ys,RowR w ys cs∧Shp P n t ys:=by
 intro n
 induction n with
 | zero=>intro t cs x _ h;simp [DataW.trod] at h
 | succ n ih =>
  intro t cs x ht h
  have hc:=List.all_eq_true.1 hl t ht
  split at hc
  ·rename_i hu
   obtain⟨b,rfl,rfl⟩:=DataW.trod_bool hu h
   refine⟨[.v (.bool b)],⟨rfl,fun i y u hy hu=>?_⟩,?_⟩
   ·match i with
    | 0=>simp at hy hu;subst hy;subst hu;exact .v _ rfl
    | i + 1=>simp at hy
   ·simp [Shp,hu]
  ·rename_i k hu
   obtain⟨z,rfl,rfl,hw⟩:=DataW.trod_int hu h
   refine⟨[.v (.int k z)],⟨rfl,fun i y u hy hu=>?_⟩,?_⟩
   ·match i with
    | 0=>simp at hy hu;subst hy;subst hu;exact .v _ rfl
    | i + 1=>simp at hy
   ·simp [Shp,hu,hw]
  ·rename_i hu
   obtain⟨s,rfl,rfl,hw⟩:=DataW.trod_string hu h
   refine⟨[.v (.string s)],⟨rfl,fun i y u hy hu=>?_⟩,?_⟩
   ·match i with
    | 0=>simp at hy hu;subst hy;subst hu;exact .v _ rfl
    | i + 1=>simp at hy
   ·simp [Shp,hu,hw]
  ·rename_i e hu
   simp only [Bool.and_eq_true,List.contains_iff_mem,decide_eq_true_eq] at hc
   rcases DataW.trod_slice hu h with ⟨rfl,rfl⟩ | ⟨a,len,cap,elems,rest,n',hn,rfl,rfl,hb,hle,hm,hlen,hel,_,_⟩
   ·refine⟨[.sl (P.cellsOf e) [] none],⟨rfl,fun i y u hy hu'=>?_⟩,?_⟩
    ·match i with
     | 0=>simp at hy hu';subst hy;subst hu';exact .sl _ [] none none 0 0 0 (fun _=>.nilIface) (by simp) (by simp) (by simp) (by simp) (by simp) (by simp) (by simp)
     | i + 1=>simp at hy
    ·simp [Shp,hu]
   ·injection hn with hn;subst hn
    have each:∀ i,i < len→∃ r cs',World.cells? w base (a.add (i * P.cellsOf e)) (P.cellsOf e)=some cs'∧RowR w r cs'∧Shp P n e r:=fun i hi=>by
     have h1:=hel i hi
     rw [List.getElem?_eq_getElem (by omega),Option.bind_eq_some_iff] at h1
     obtain⟨cs',hcs,hy⟩:=h1
     obtain⟨r,hr,hs⟩:=ih e cs' _ hc.1 hy
     exact⟨r,cs',hcs,hr,hs⟩
    have hex:∃ g:Nat→List CV,∀ i,i < len→∃ cs',World.cells? w base (a.add (i * P.cellsOf e)) (P.cellsOf e)=some cs'∧RowR w (g i) cs'∧Shp P n e (g i):=by
     refine⟨fun i=>if hi:i < len then (each i hi).choose else [],fun i hi=>?_⟩
     obtain⟨cs',h1⟩:=(each i hi).choose_spec
     refine⟨cs',?_⟩
     simp only [hi,dif_pos]
     exact h1
    obtain⟨g,hg⟩:=hex
    have hget:∀ (i:Nat) r,((List.range len).map g)[i]?=some r→i < len∧r=g i:=fun i r hr=>by
     have hi:i < len:=by have:=(List.getElem?_eq_some_iff.1 hr).1;simpa using this
     refine⟨hi,?_⟩
     simpa [List.getElem?_map,List.getElem?_range hi] using hr.symm
    have hrl:∀ i,i < len→(g i).length=P.cellsOf e:=fun i hi=>by
     obtain⟨cs',h1,h2,_⟩:=hg i hi
     rw [h2.1,(World.cells?_some h1).2.1]
    have hcell:∀ i j,i < len→j < P.cellsOf e→∃ u,w.cell? ((a.add (i * P.cellsOf e)).add j)=some u∧∃ y,(g i)[j]?=some y∧RelC (allS w) w y u:=fun i j hi hj=>by
     obtain⟨cs',h1,h2,_⟩:=hg i hi
     obtain⟨_,h3,h4⟩:=World.cells?_some h1
     obtain⟨y,hy⟩:∃ y,(g i)[j]?=some y:=⟨_,List.getElem?_eq_getElem (by rw [hrl i hi];exact hj)⟩
     obtain⟨v,hv⟩:∃ v,cs'[j]?=some v:=⟨_,List.getElem?_eq_getElem (by rw [h3];exact hj)⟩
     exact⟨_,(h4 j hj).trans hv,_,hy,h2.2 j _ _ hy hv⟩
    have hspot:0 < len→a.spot=none:=fun h0=>by
     obtain⟨u,hu',_⟩:=hcell 0 0 h0 hc.2
     simpa [Addr.add] using (w9q hu').2
    have hadd:0 < len→∀ i j,(a.add (i * P.cellsOf e)).add j=⟨a.block,a.off + (i * P.cellsOf e + j),none⟩:=fun h0 i j=>by
     have hs:=hspot h0
     obtain⟨ab,ao,asp⟩:=a
     simp only at hs;subst hs
     unfold Addr.add
     by_cases h1:i * P.cellsOf e=0<;>by_cases h2:j=0<;>simp [h1,h2]<;>omega
    have hdiv:∀ k,k < len * P.cellsOf e→k / P.cellsOf e < len∧k % P.cellsOf e < P.cellsOf e∧k / P.cellsOf e * P.cellsOf e + k % P.cellsOf e=k:=fun k hk =>
     ⟨(Nat.div_lt_iff_lt_mul hc.2).2 hk,Nat.mod_lt _ hc.2,by rw [Nat.mul_comm];exact Nat.div_add_mod _ _⟩
    have hall:∀ k,k < len * P.cellsOf e→∃ u,z0l w a.block (a.off + k)=some u:=fun k hk=>by
     obtain⟨h1,h2,h3⟩:=hdiv k hk
     obtain⟨u,h4,_⟩:=hcell _ _ h1 h2
     rw [hadd (Nat.lt_of_le_of_lt (Nat.zero_le _) h1),h3] at h4
     exact⟨u,h4⟩
    refine⟨[.sl (P.cellsOf e) ((List.range len).map g) none],⟨rfl,fun i y u hy hu'=>?_⟩,?_⟩
    ·match i with
     | i + 1=>simp at hy
     | 0 =>
      simp only [List.getElem?_cons_zero,Option.some.injEq] at hy hu'
      subst hy;subst hu'
      have hlen':((List.range len).map g).length=len:=by simp
      have hgoal:RelC (allS w) w (.sl (P.cellsOf e) ((List.range len).map g) none) (.slice (some a) ((List.range len).map g).length cap):=by
       refine .sl _ _ none (some a) cap a.block a.off (fun k=>(z0l w a.block (a.off + k)).getD .nilIface) (by rw [hlen'];exact hle) (by simp) ?_ ?_ ?_ ?_ ?_
       ·intro hne
        have h0:0 < len:=by
         cases len with
         | zero=>simp at hne
         | succ _=>omega
        refine⟨?_,hc.2⟩
        have:=hspot h0
        obtain⟨ab,ao,asp⟩:=a
        simp only at this;subst this;rfl
       ·intro i r hr
        simp only [Option.getD_none,List.append_nil] at hr
        obtain⟨hi,rfl⟩:=hget i r hr
        exact hrl i hi
       ·intro k hk
        simp only [Option.getD_none,List.append_nil,hlen'] at hk
        obtain⟨u,hu'⟩:=hall k hk
        exact (w9q hu').1
       ·intro k hk
        simp only [Option.getD_none,List.append_nil,hlen'] at hk
        obtain⟨u,hu'⟩:=hall k hk
        show z0l w a.block (a.off + k)=some ((z0l w a.block (a.off + k)).getD .nilIface)
        rw [hu'];rfl
       ·intro i j r y hr hy
        simp only [Option.getD_none,List.append_nil] at hr
        obtain⟨hi,rfl⟩:=hget i r hr
        have hj:j < P.cellsOf e:=by rw [← hrl i hi];exact (List.getElem?_eq_some_iff.1 hy).1
        obtain⟨u,h4,y',h5,h6⟩:=hcell i j hi hj
        rw [hy] at h5;injection h5 with h5;subst h5
        rw [hadd (by omega)] at h4
        show RelC (allS w) w y ((z0l w a.block (a.off + (i * P.cellsOf e + j))).getD .nilIface)
        rw [show z0l w a.block (a.off + (i * P.cellsOf e + j))=some u from h4]
        exact h6
      rwa [hlen'] at hgoal
    ·simp only [Shp,hu]
     refine⟨_,rfl,by simp;omega,fun r hr=>?_⟩
     obtain⟨i,hi,rfl⟩:=List.mem_map.1 hr
     obtain⟨_,_,_,h5⟩:=hg i (List.mem_range.1 hi)
     exact h5
  ·rename_i fs hu
   simp only [Bool.and_eq_true,List.all_eq_true,List.contains_iff_mem] at hc
   obtain⟨xs,n',hn,rfl,hlen,hxl,hf⟩:=DataW.trod_struct hu h
   injection hn with hn;subst hn
   obtain⟨ys,h1,h2⟩:=z9v (P:=P) (w:=w) (n:=n) cs fs.toList 0 (by rw [hlen];exact hc.2) (fun f hfm=>by
    obtain⟨i,hi⟩:=List.getElem?_of_mem hfm
    have h3:=hf i f (by simpa using hi)
    have hi':i < xs.length:=by rw [hxl];simpa using (List.getElem?_eq_some_iff.1 hi).1
    rw [List.getElem?_eq_getElem hi'] at h3
    exact ih f.type _ _ (hc.1 f hfm) h3)
   refine⟨ys,by simpa using h1,?_⟩
   simp only [Shp,hu]
   exact h2
  ·simp at hc
theorem k0h {l:List TypeId} (hl:w4l P l=true) {t:TypeId} (ht:t ∈ l) {v:Value} {d:DataW H} {ps:List MemPlace} (h:DataW.Trod enc P w base spare held t v d ps) (h1:v.cells=#[v]) :
  ∃ n y,RelC (allS w) w y v∧Shp P n t [y]:=by
 obtain⟨n,h⟩:=h
 rw [h1] at h
 obtain⟨ys,hr,hs⟩:=w3p hl n t _ _ ht h
 have hlen:=hr.1
 match ys,hlen with
 | [y],_=>exact⟨n,y,hr.2 0 y v rfl rfl,hs⟩
end
theorem Ext.below {w w':World} (h:Ext (fun _ _=>False) w w'):Below w.heap.size w w':=⟨h.os,h.tape,h.output,h.size,fun k hk=>h.obj k hk (fun _ q=>q)⟩
end Go.Proofs.Ythncmjlcmlmnmaa.V
namespace Go.Proofs.Ythncmjlcmlmnmaa
open Go V
open Go.ChangeShapes Go.WideShapes Go.ChangeAt Go.RowKit
theorem Try.own:ownKnob Try.prog.godebug=none:=by kernel_rfl
theorem Try.laidOut:laidOutB Try.prog=true:=by kernel_rfl
set_option maxRecDepth 100000
theorem u8_of {n:Int} (h:(Lit.int .u8 n).wf=true):0≤n∧n≤255:=by
 have h':(decide (IntKind.u8.min≤n) && decide (n≤IntKind.u8.max))=true:=h
 have h1:IntKind.u8.min=0:=by decide
 have h2:IntKind.u8.max=255:=by decide
 rw [Bool.and_eq_true,h1,h2] at h'
 exact⟨of_decide_eq_true h'.1,of_decide_eq_true h'.2⟩
theorem w6a:∀ (es:List (List CV)),(∀ r ∈ es,∃ z,r=[.v (.int .u8 z)]∧(Lit.int .u8 z).wf=true)→∃ bs:List UInt8,es=encB bs
 | [],_=>⟨[],rfl⟩
 | r :: es,h=>by
  obtain⟨z,hz,hw⟩:=h r (by simp)
  obtain⟨bs,hbs⟩:=w6a es (fun r hr=>h r (by simp [hr]))
  have h1:=u8_of hw
  refine⟨UInt8.ofNat z.toNat :: bs,?_⟩
  rw [hz,hbs,w2z]
  have:(UInt8.ofNat z.toNat).toNat=z.toNat:=by simp;omega
  rw [this,show ((z.toNat:Nat):Int)=z by omega]
section
variable {H:Type} {enc:TypeId × Value→H} {w:World} {base:Nat} {spare:Nat→Bool} {held:Bool}
theorem w4n {t e:TypeId} {v:Value} {r:Reach} (hu:Try.prog.underlying t=some (.slice e)) (hv:Value.okWide Try.prog w r base t v):v.cells=#[v]:=by
 unfold Value.okWide at hv
 rw [hu] at hv
 unfold Cell.okWide at hv
 rw [hu] at hv
 unfold Cell.ok at hv
 rw [hu] at hv
 cases v<;>first | rfl | exact hv.elim
end
open Go.ChangeShapes Go.WideShapes Go.ChangeAt Go.RowKit
set_option maxRecDepth 100000
theorem w1j {n:Nat} {t e:TypeId} {c:Nat} {ys:List CV} (hu:Try.prog.underlying t=some (.slice e)) (hc:Try.prog.cellsOf e=c) (h:Shp Try.prog n t ys):∃ m es,n=m + 1∧ys=[.sl c es none]∧∀ r ∈ es,Shp Try.prog m e r:=by
 cases n with
 | zero=>exact h.elim
 | succ n=>simp only [Shp,hu,hc] at h;obtain⟨es,h1,_,h2⟩:=h;exact⟨n,es,rfl,h1,h2⟩
end Go.Proofs.Ythncmjlcmlmnmaa
