/- The Go functions are followed by those without memory. Printed by gen.py. Conditions: none. -/
import Derived.Test.YthncmjlcmlmnmaaRT5
import Derived.Test.YthncmjlcmlmnmaaRT8
import Derived.Test.YthncmjlcmlmnmaaRT12
import Derived.Test.YthncmjlcmlmnmaaRT13
import Derived.Test.YthncmjlcmlmnmaaRT7
namespace Go.Proofs.Ythncmjlcmlmnmaa
open Go V
set_option maxRecDepth 100000
set_option maxHeartbeats 4000000
def D_p143 (fu : Nat) : Prop := ∀ {K0 : Int → Int → ByteArray → EL → EL → ByteArray → Int → Int → Int → Int → Int → Prop} (L : EL → Nat) (_ : L = List.length) {x0 : ByteArray} {x1 x2 x3 x4 x5 x6 : Int} (_ : p143 False fu K0 x0 x1 x2 x3 x4 x5 x6),Den Try.prog G0 143 [.ptr [.c (.v (.string x0)),.c (.v (.int .i64 x1)),.c (.v (.int .i64 x2)),.c (.v (.int .i64 x3)),.c (.v (.int .i64 x4)),.c (.v (.int .i64 x5))],.c (.v (.int .i64 x6))] (fun r bs => (∃ (y0 y1 : Int) (y2 : ByteArray) (y3 y4 : EL) (y5 : ByteArray) (y6 y7 y8 y9 y10 : Int) (o1 : OV),(r = .agg [.c (.v (.int .i64 y0)),.c (.v (.int .i64 y1)),.c (.v (.string y2)),.c (.sl 3 y3 none),.c (.sl 5 y4 none)] ∧ bs = [.ptr [.c (.v (.string y5)),.c (.v (.int .i64 y6)),.c (.v (.int .i64 y7)),.c (.v (.int .i64 y8)),.c (.v (.int .i64 y9)),.c (.v (.int .i64 y10))],o1]) ∧ K0 y0 y1 y2 y3 y4 y5 y6 y7 y8 y9 y10))
theorem b_p143 (fu : Nat) (ih_p143 : D_p143 fu) {K0 : Int → Int → ByteArray → EL → EL → ByteArray → Int → Int → Int → Int → Int → Prop} (L : EL → Nat) (hN : L = List.length) {x0 : ByteArray} {x1 x2 x3 x4 x5 x6 : Int} (h : p143_b False fu (p143 False fu) K0 x0 x1 x2 x3 x4 x5 x6) : Den Try.prog G0 143 [.ptr [.c (.v (.string x0)),.c (.v (.int .i64 x1)),.c (.v (.int .i64 x2)),.c (.v (.int .i64 x3)),.c (.v (.int .i64 x4)),.c (.v (.int .i64 x5))],.c (.v (.int .i64 x6))] (fun r bs => (∃ (y0 y1 : Int) (y2 : ByteArray) (y3 y4 : EL) (y5 : ByteArray) (y6 y7 y8 y9 y10 : Int) (o1 : OV),(r = .agg [.c (.v (.int .i64 y0)),.c (.v (.int .i64 y1)),.c (.v (.string y2)),.c (.sl 3 y3 none),.c (.sl 5 y4 none)] ∧ bs = [.ptr [.c (.v (.string y5)),.c (.v (.int .i64 y6)),.c (.v (.int .i64 y7)),.c (.v (.int .i64 y8)),.c (.v (.int .i64 y9)),.c (.v (.int .i64 y10))],o1]) ∧ K0 y0 y1 y2 y3 y4 y5 y6 y7 y8 y9 y10)) := by
 obtain ⟨O,hO⟩ : ∃ O,O = std 1 T G0 (Den Try.prog G0) := ⟨_,rfl⟩
 have hLO : L = O.len := by rw [hN,hO]; rfl
 subst hLO
 refine den_h hO tiA mixed tabOk (fn := Try.f143) (sh := true) (by kernel_rfl) rfl rfl rfl rfl ?_
 intro Q hQ
 unfold p143_b at h
 conv => cbv
 refine z0c hO [.ref 6] (d_p145 fu O.len hN h) ?_
 intro os Q hos hQ
 conv => cbv
 refine ⟨(by (rw [hos]) <;> (subst hO; rfl)),?_⟩
 intro r bs hq
 rw [hQ] at hq
 clear hos hQ h
 obtain ⟨y1,y2,y3,y4,y5,y6,y7,⟨rfl,rfl⟩,h⟩ := hq
 conv => cbv
 refine z0y hO tiA [[],[]] [(0,true,false),(1,true,false),(2,true,false),(3,true,false),(4,true,false),(5,true,false),(6,true,false),(7,true,false),(8,true,false),(9,true,true),(10,true,true),(11,true,true),(12,true,true),(13,true,true),(14,true,false),(15,true,false),(16,true,true),(17,true,true),(18,true,false),(19,true,false),(20,true,true),(21,true,true),(22,true,false),(23,true,false),(24,true,true),(25,true,true),(26,true,false),(27,true,false),(28,true,true),(29,true,true),(30,true,false),(31,true,false),(32,true,true),(33,true,true),(34,true,false),(35,false,false),(36,true,false),(37,true,true),(38,true,true)] (by kernel_rfl) [0,1,4,5,52] [0,5000] [] (fun tm m => ∃ (j8 : Bool),((tm = frame 0 170 [(0,.p 0 0 0),(1,.c (.v (.int .i64 x6))),(4,.p 5000 1 0),(5,.c (.v (.int .u8 y1))),(52,.c (.v (.bool j8)))] ∧ m = ⟨[(0,.blk 0 [.c (.v (.string y2)),.c (.v (.int .i64 y3)),.c (.v (.int .i64 y4)),.c (.v (.int .i64 y5)),.c (.v (.int .i64 y6)),.c (.v (.int .i64 y7))]),(5000,.blk 1 [.c (.v (.int .i64 0)),.c (.v (.int .i64 0)),.c (.v (.string ⟨#[]⟩)),.c (.sl 3 [] (some [])),.c (.sl 5 [] (some []))])],2⟩)) ∧ p143_5 False fu (p143 False fu) K0 x6 y1 y2 y3 y4 y5 y6 y7 j8) (fun L hL_5 => ?_) ?_
 conv => cbv
 refine br_h hO h (by subst hO; rfl) (fun hc11 h => ?_) (fun hc11 h => ?_)
 conv => cbv
 refine br_t hO hc11 ?_
 conv => cbv
 refine br_t hO hc11 ?_
 conv => cbv
 refine br_t hO hc11 ?_
 conv => cbv
 refine br_t hO hc11 ?_
 conv => cbv
 refine br_t hO hc11 ?_
 conv => cbv
 refine br_t hO hc11 ?_
 conv => cbv
 refine br_t hO hc11 ?_
 conv => cbv
 refine br_t hO hc11 ?_
 conv => cbv
 refine br_t hO hc11 ?_
 conv => cbv
 refine br_t hO hc11 ?_
 conv => cbv
 refine br_t hO hc11 ?_
 conv => cbv
 refine br_t hO hc11 ?_
 conv => cbv
 refine br_t hO hc11 ?_
 conv => cbv
 refine br_t hO hc11 ?_
 conv => cbv
 exact hL_5 _ _ ⟨true,⟨(by (conv => lhs; cbv) <;> (subst hO; rfl)),(by (conv => lhs; cbv) <;> (subst hO; rfl))⟩,h⟩
 conv => cbv
 refine br_f hO hc11 ?_
 conv => cbv
 refine br_f hO hc11 ?_
 conv => cbv
 refine br_h hO h (by subst hO; rfl) (fun hc12 h => ?_) (fun hc12 h => ?_)
 conv => cbv
 refine br_t hO hc12 ?_
 conv => cbv
 refine br_f hO hc11 ?_
 conv => cbv
 refine br_t hO hc12 ?_
 conv => cbv
 refine br_f hO hc11 ?_
 conv => cbv
 refine br_h hO h (by subst hO; rfl) (fun hc13 h => ?_) (fun hc13 h => ?_)
 conv => cbv
 refine br_t hO hc13 ?_
 conv => cbv
 refine br_f hO hc11 ?_
 conv => cbv
 refine br_t hO hc13 ?_
 conv => cbv
 refine br_f hO hc11 ?_
 conv => cbv
 refine br_h hO h (by subst hO; rfl) (fun hc14 h => ?_) (fun hc14 h => ?_)
 conv => cbv
 refine br_t hO hc14 ?_
 conv => cbv
 refine br_f hO hc11 ?_
 conv => cbv
 refine br_t hO hc14 ?_
 conv => cbv
 refine br_f hO hc11 ?_
 conv => cbv
 refine br_h hO h (by subst hO; rfl) (fun hc15 h => ?_) (fun hc15 h => ?_)
 conv => cbv
 refine br_t hO hc15 ?_
 conv => cbv
 refine br_f hO hc11 ?_
 conv => cbv
 refine br_t hO hc15 ?_
 conv => cbv
 refine br_f hO hc11 ?_
 conv => cbv
 refine br_h hO h (by subst hO; rfl) (fun hc16 h => ?_) (fun hc16 h => ?_)
 conv => cbv
 refine br_t hO hc16 ?_
 conv => cbv
 refine br_f hO hc11 ?_
 conv => cbv
 refine br_t hO hc16 ?_
 conv => cbv
 refine br_f hO hc11 ?_
 conv => cbv
 refine br_h hO h (by subst hO; rfl) (fun hc17 h => ?_) (fun hc17 h => ?_)
 conv => cbv
 refine br_t hO hc17 ?_
 conv => cbv
 refine z0c hO [.shut] (d_p146 fu O.len hN h) ?_
 intro os Q hos hQ
 conv => cbv
 refine ⟨(by (rw [hos]) <;> (subst hO; rfl)),?_⟩
 intro r bs hq
 rw [hQ] at hq
 clear hos hQ h
 obtain ⟨y176,_,⟨rfl,rfl⟩,h⟩ := hq
 conv => cbv
 refine ⟨z0e hO (Nat.le_of_ble_eq_true rfl) rfl,?_⟩
 refine br_t hO hc17 ?_
 conv => cbv
 refine br_f hO hc11 ?_
 conv => cbv
 refine br_t hO hc17 ?_
 conv => cbv
 refine br_f hO hc11 ?_
 conv => cbv
 exact hL_5 _ _ ⟨(!y176),⟨(by (conv => lhs; cbv) <;> (subst hO; rfl)),(by (conv => lhs; cbv) <;> (subst hO; rfl))⟩,h⟩
 conv => cbv
 refine br_f hO hc17 ?_
 conv => cbv
 refine br_f hO hc17 ?_
 conv => cbv
 refine br_f hO hc11 ?_
 conv => cbv
 refine br_f hO hc17 ?_
 conv => cbv
 refine br_f hO hc11 ?_
 conv => cbv
 exact hL_5 _ _ ⟨false,⟨(by (conv => lhs; cbv) <;> (subst hO; rfl)),(by (conv => lhs; cbv) <;> (subst hO; rfl))⟩,h⟩
 conv => cbv
 refine br_f hO hc16 ?_
 conv => cbv
 refine br_f hO hc11 ?_
 conv => cbv
 refine br_f hO hc16 ?_
 conv => cbv
 refine br_f hO hc11 ?_
 conv => cbv
 refine br_f hO rfl ?_
 conv => cbv
 refine br_f hO rfl ?_
 conv => cbv
 refine br_f hO rfl ?_
 conv => cbv
 refine br_f hO hc11 ?_
 conv => cbv
 refine br_f hO rfl ?_
 conv => cbv
 refine br_f hO hc11 ?_
 conv => cbv
 exact hL_5 _ _ ⟨false,⟨(by (conv => lhs; cbv) <;> (subst hO; rfl)),(by (conv => lhs; cbv) <;> (subst hO; rfl))⟩,h⟩
 conv => cbv
 refine br_f hO hc15 ?_
 conv => cbv
 refine br_f hO hc11 ?_
 conv => cbv
 refine br_f hO hc15 ?_
 conv => cbv
 refine br_f hO hc11 ?_
 conv => cbv
 refine br_f hO rfl ?_
 conv => cbv
 refine br_f hO rfl ?_
 conv => cbv
 refine br_f hO hc11 ?_
 conv => cbv
 refine br_f hO rfl ?_
 conv => cbv
 refine br_f hO hc11 ?_
 conv => cbv
 refine br_f hO rfl ?_
 conv => cbv
 refine br_f hO rfl ?_
 conv => cbv
 refine br_f hO rfl ?_
 conv => cbv
 refine br_f hO hc11 ?_
 conv => cbv
 refine br_f hO rfl ?_
 conv => cbv
 refine br_f hO hc11 ?_
 conv => cbv
 exact hL_5 _ _ ⟨false,⟨(by (conv => lhs; cbv) <;> (subst hO; rfl)),(by (conv => lhs; cbv) <;> (subst hO; rfl))⟩,h⟩
 conv => cbv
 refine br_f hO hc14 ?_
 conv => cbv
 refine br_f hO hc11 ?_
 conv => cbv
 refine br_f hO hc14 ?_
 conv => cbv
 refine br_f hO hc11 ?_
 conv => cbv
 refine br_f hO rfl ?_
 conv => cbv
 refine br_f hO rfl ?_
 conv => cbv
 refine br_f hO hc11 ?_
 conv => cbv
 refine br_f hO rfl ?_
 conv => cbv
 refine br_f hO hc11 ?_
 conv => cbv
 refine br_f hO rfl ?_
 conv => cbv
 refine br_f hO rfl ?_
 conv => cbv
 refine br_f hO hc11 ?_
 conv => cbv
 refine br_f hO rfl ?_
 conv => cbv
 refine br_f hO hc11 ?_
 conv => cbv
 refine br_f hO rfl ?_
 conv => cbv
 refine br_f hO rfl ?_
 conv => cbv
 refine br_f hO rfl ?_
 conv => cbv
 refine br_f hO hc11 ?_
 conv => cbv
 refine br_f hO rfl ?_
 conv => cbv
 refine br_f hO hc11 ?_
 conv => cbv
 exact hL_5 _ _ ⟨false,⟨(by (conv => lhs; cbv) <;> (subst hO; rfl)),(by (conv => lhs; cbv) <;> (subst hO; rfl))⟩,h⟩
 conv => cbv
 refine br_f hO hc13 ?_
 conv => cbv
 refine br_f hO hc11 ?_
 conv => cbv
 refine br_f hO hc13 ?_
 conv => cbv
 refine br_f hO hc11 ?_
 conv => cbv
 refine br_f hO rfl ?_
 conv => cbv
 refine br_f hO rfl ?_
 conv => cbv
 refine br_f hO hc11 ?_
 conv => cbv
 refine br_f hO rfl ?_
 conv => cbv
 refine br_f hO hc11 ?_
 conv => cbv
 refine br_f hO rfl ?_
 conv => cbv
 refine br_f hO rfl ?_
 conv => cbv
 refine br_f hO hc11 ?_
 conv => cbv
 refine br_f hO rfl ?_
 conv => cbv
 refine br_f hO hc11 ?_
 conv => cbv
 refine br_f hO rfl ?_
 conv => cbv
 refine br_f hO rfl ?_
 conv => cbv
 refine br_f hO hc11 ?_
 conv => cbv
 refine br_f hO rfl ?_
 conv => cbv
 refine br_f hO hc11 ?_
 conv => cbv
 refine br_f hO rfl ?_
 conv => cbv
 refine br_f hO rfl ?_
 conv => cbv
 refine br_f hO rfl ?_
 conv => cbv
 refine br_f hO hc11 ?_
 conv => cbv
 refine br_f hO rfl ?_
 conv => cbv
 refine br_f hO hc11 ?_
 conv => cbv
 exact hL_5 _ _ ⟨false,⟨(by (conv => lhs; cbv) <;> (subst hO; rfl)),(by (conv => lhs; cbv) <;> (subst hO; rfl))⟩,h⟩
 conv => cbv
 refine br_f hO hc12 ?_
 conv => cbv
 refine br_f hO hc11 ?_
 conv => cbv
 refine br_f hO hc12 ?_
 conv => cbv
 refine br_f hO hc11 ?_
 conv => cbv
 refine br_f hO rfl ?_
 conv => cbv
 refine br_f hO rfl ?_
 conv => cbv
 refine br_f hO hc11 ?_
 conv => cbv
 refine br_f hO rfl ?_
 conv => cbv
 refine br_f hO hc11 ?_
 conv => cbv
 refine br_f hO rfl ?_
 conv => cbv
 refine br_f hO rfl ?_
 conv => cbv
 refine br_f hO hc11 ?_
 conv => cbv
 refine br_f hO rfl ?_
 conv => cbv
 refine br_f hO hc11 ?_
 conv => cbv
 refine br_f hO rfl ?_
 conv => cbv
 refine br_f hO rfl ?_
 conv => cbv
 refine br_f hO hc11 ?_
 conv => cbv
 refine br_f hO rfl ?_
 conv => cbv
 refine br_f hO hc11 ?_
 conv => cbv
 refine br_f hO rfl ?_
 conv => cbv
 refine br_f hO rfl ?_
 conv => cbv
 refine br_f hO hc11 ?_
 conv => cbv
 refine br_f hO rfl ?_
 conv => cbv
 refine br_f hO hc11 ?_
 conv => cbv
 refine br_f hO rfl ?_
 conv => cbv
 refine br_f hO rfl ?_
 conv => cbv
 refine br_f hO rfl ?_
 conv => cbv
 refine br_f hO hc11 ?_
 conv => cbv
 refine br_f hO rfl ?_
 conv => cbv
 refine br_f hO hc11 ?_
 conv => cbv
 exact hL_5 _ _ ⟨false,⟨(by (conv => lhs; cbv) <;> (subst hO; rfl)),(by (conv => lhs; cbv) <;> (subst hO; rfl))⟩,h⟩
 rintro tm m ⟨j8,hs,h⟩
 unfold p143_5 at h
 obtain ⟨rfl,rfl⟩ := hs
 conv => cbv
 refine br_h hO h (by subst hO; rfl) (fun hc1 h => ?_) (fun hc1 h => ?_)
 conv => cbv
 refine z0c hO [.ref 6,.shut,.shut] (d_p147 fu O.len hN h) ?_
 intro os Q hos hQ
 conv => cbv
 refine ⟨(by (rw [hos]) <;> (subst hO; rfl)),?_⟩
 intro r bs hq
 rw [hQ] at hq
 clear hos hQ h
 obtain ⟨y9,y10,y11,y12,y13,y14,_,_,⟨rfl,rfl⟩,h⟩ := hq
 conv => cbv
 rw [hQ]
 exact ⟨0,0,⟨#[]⟩,nilE,nilE,y9,y10,y11,y12,y13,y14,_,⟨(by subst hO; rfl),(by subst hO; rfl)⟩,h⟩
 conv => cbv
 refine z0b hO ?_
 conv => cbv
 refine z0h hO tiA h (by subst hO; rfl) [0,1,4,5] [0,5000] [] (fun tm m => ∃ (j15 : ByteArray) (j16 : Int) (j17 : Int) (j18 : Int) (j19 : Int) (j20 : Int),((tm = frame 0 170 [(0,.p 0 0 0),(1,.c (.v (.int .i64 x6))),(4,.p 5000 1 0),(5,.c (.v (.int .u8 y1)))] ∧ m = ⟨[(0,.blk 0 [.c (.v (.string j15)),.c (.v (.int .i64 j16)),.c (.v (.int .i64 j17)),.c (.v (.int .i64 j18)),.c (.v (.int .i64 j19)),.c (.v (.int .i64 j20))]),(5000,.blk 1 [.c (.v (.int .i64 0)),.c (.v (.int .i64 0)),.c (.v (.string ⟨#[]⟩)),.c (.sl 3 [] (some [])),.c (.sl 5 [] (some []))])],2⟩)) ∧ p143_4 False fu (p143 False fu) K0 x6 y1 j15 j16 j17 j18 j19 j20) (fun hc10 h L hL_4 => ?_) (fun hc10 h L hL_4 => ?_) ?_
 conv => cbv
 refine z0c hO [.ref 6,.shut,.shut] (d_p147 fu O.len hN h) ?_
 intro os Q hos hQ
 conv => cbv
 refine ⟨(by (rw [hos]) <;> (subst hO; rfl)),?_⟩
 intro r bs hq
 rw [hQ] at hq
 clear hos hQ h
 obtain ⟨y170,y171,y172,y173,y174,y175,_,_,⟨rfl,rfl⟩,h⟩ := hq
 conv => cbv
 exact hL_4 _ _ ⟨y170,y171,y172,y173,y174,y175,⟨(by (conv => lhs; cbv) <;> (subst hO; rfl)),(by (conv => lhs; cbv) <;> (subst hO; rfl))⟩,h⟩
 conv => cbv
 exact hL_4 _ _ ⟨y2,y3,y4,y5,y6,y7,⟨(by (conv => lhs; cbv) <;> (subst hO; rfl)),(by (conv => lhs; cbv) <;> (subst hO; rfl))⟩,h⟩
 rintro tm m ⟨j15,j16,j17,j18,j19,j20,hs,h⟩
 unfold p143_4 at h
 obtain ⟨rfl,rfl⟩ := hs
 conv => cbv
 refine z0h hO tiA h (by subst hO; rfl) [0,1,4,5] [0,5000] [] (fun tm m => ∃ (j21 : ByteArray) (j22 : Int) (j23 : Int) (j24 : Int) (j25 : Int) (j26 : Int),((tm = frame 0 170 [(0,.p 0 0 0),(1,.c (.v (.int .i64 x6))),(4,.p 5000 1 0),(5,.c (.v (.int .u8 y1)))] ∧ m = ⟨[(0,.blk 0 [.c (.v (.string j21)),.c (.v (.int .i64 j22)),.c (.v (.int .i64 j23)),.c (.v (.int .i64 j24)),.c (.v (.int .i64 j25)),.c (.v (.int .i64 j26))]),(5000,.blk 1 [.c (.v (.int .i64 0)),.c (.v (.int .i64 0)),.c (.v (.string ⟨#[]⟩)),.c (.sl 3 [] (some [])),.c (.sl 5 [] (some []))])],2⟩)) ∧ p143_3 False fu (p143 False fu) K0 x6 y1 j21 j22 j23 j24 j25 j26) (fun hc9 h L hL_3 => ?_) (fun hc9 h L hL_3 => ?_) ?_
 conv => cbv
 refine z0c hO [.ref 6,.shut,.shut] (d_p147 fu O.len hN h) ?_
 intro os Q hos hQ
 conv => cbv
 refine ⟨(by (rw [hos]) <;> (subst hO; rfl)),?_⟩
 intro r bs hq
 rw [hQ] at hq
 clear hos hQ h
 obtain ⟨y164,y165,y166,y167,y168,y169,_,_,⟨rfl,rfl⟩,h⟩ := hq
 conv => cbv
 exact hL_3 _ _ ⟨y164,y165,y166,y167,y168,y169,⟨(by (conv => lhs; cbv) <;> (subst hO; rfl)),(by (conv => lhs; cbv) <;> (subst hO; rfl))⟩,h⟩
 conv => cbv
 exact hL_3 _ _ ⟨j15,j16,j17,j18,j19,j20,⟨(by (conv => lhs; cbv) <;> (subst hO; rfl)),(by (conv => lhs; cbv) <;> (subst hO; rfl))⟩,h⟩
 rintro tm m ⟨j21,j22,j23,j24,j25,j26,hs,h⟩
 unfold p143_3 at h
 obtain ⟨rfl,rfl⟩ := hs
 conv => cbv
 refine br_h hO h (by subst hO; rfl) (fun hc2 h => ?_) (fun hc2 h => ?_)
 conv => cbv
 rw [hQ]
 exact ⟨0,0,⟨#[]⟩,nilE,nilE,j21,j22,j23,j24,j25,j26,_,⟨(by subst hO; rfl),(by subst hO; rfl)⟩,h⟩
 conv => cbv
 refine z0b hO ?_
 conv => cbv
 refine z0c hO [.shut] (d_p146 fu O.len hN h) ?_
 intro os Q hos hQ
 conv => cbv
 refine ⟨(by (rw [hos]) <;> (subst hO; rfl)),?_⟩
 intro r bs hq
 rw [hQ] at hq
 clear hos hQ h
 obtain ⟨y27,_,⟨rfl,rfl⟩,h⟩ := hq
 conv => cbv
 refine br_h hO h (by subst hO; rfl) (fun hc3 h => ?_) (fun hc3 h => ?_)
 conv => cbv
 refine z0c hO [.ref 6] (d_p148 fu O.len hN h) ?_
 intro os Q hos hQ
 conv => cbv
 refine ⟨(by (rw [hos]) <;> (subst hO; rfl)),?_⟩
 intro r bs hq
 rw [hQ] at hq
 clear hos hQ h
 obtain ⟨y28,y29,y30,y31,y32,y33,y34,y35,y36,y37,y38,⟨rfl,rfl⟩,h⟩ := hq
 conv => cbv
 rw [hQ]
 exact ⟨y28,y29,y30,y31,y32,y33,y34,y35,y36,y37,y38,_,⟨(by subst hO; rfl),(by subst hO; rfl)⟩,h⟩
 conv => cbv
 refine z0b hO ?_
 conv => cbv
 refine br_h hO h (by subst hO; rfl) (fun hc4 h => ?_) (fun hc4 h => ?_)
 conv => cbv
 refine z0c hO [.ref 6] (d_p149 fu O.len hN h) ?_
 intro os Q hos hQ
 conv => cbv
 refine ⟨(by (rw [hos]) <;> (subst hO; rfl)),?_⟩
 intro r bs hq
 rw [hQ] at hq
 clear hos hQ h
 obtain ⟨y39,y40,y41,y42,y43,y44,y45,⟨rfl,rfl⟩,h⟩ := hq
 conv => cbv
 rw [hQ]
 exact ⟨0,y39,⟨#[]⟩,nilE,nilE,y40,y41,y42,y43,y44,y45,_,⟨(by subst hO; rfl),(by subst hO; rfl)⟩,h⟩
 conv => cbv
 refine br_h hO h (by subst hO; rfl) (fun hc5 h => ?_) (fun hc5 h => ?_)
 conv => cbv
 refine z0c hO [.ref 6] (d_p150 fu O.len hN h) ?_
 intro os Q hos hQ
 conv => cbv
 refine ⟨(by (rw [hos]) <;> (subst hO; rfl)),?_⟩
 intro r bs hq
 rw [hQ] at hq
 clear hos hQ h
 obtain ⟨y46,y47,y48,y49,y50,y51,y52,y53,y54,⟨rfl,rfl⟩,h⟩ := hq
 conv => cbv
 refine z0v hO h (fun g => (by subst hO; exact g)) (fun h => ?_)
 conv => cbv
 rw [hQ]
 exact ⟨1,0,⟨#[]⟩,List.take 1 [[(CV.v (.int .i64 y46)),(CV.v (.int .i64 y47)),(CV.sl 3 y48 none)]],nilE,y49,y50,y51,y52,y53,y54,_,⟨(by subst hO; rfl),(by subst hO; rfl)⟩,h⟩
 conv => cbv
 refine br_h hO h (by subst hO; rfl) (fun hc6 h => ?_) (fun hc6 h => ?_)
 conv => cbv
 refine z0c hO [.ref 6,.shut] (ih_p143 O.len hN h) ?_
 intro os Q hos hQ
 conv => cbv
 refine ⟨(by (rw [hos]) <;> (subst hO; rfl)),?_⟩
 intro r bs hq
 rw [hQ] at hq
 clear hos hQ h
 obtain ⟨y55,y56,y57,y58,y59,y60,y61,y62,y63,y64,y65,_,⟨rfl,rfl⟩,h⟩ := hq
 conv => cbv
 refine z0c hO [.ref 6,.shut] (ih_p143 O.len hN h) ?_
 intro os Q hos hQ
 conv => cbv
 refine ⟨(by (rw [hos]) <;> (subst hO; rfl)),?_⟩
 intro r bs hq
 rw [hQ] at hq
 clear hos hQ h
 obtain ⟨y66,y67,y68,y69,y70,y71,y72,y73,y74,y75,y76,_,⟨rfl,rfl⟩,h⟩ := hq
 conv => cbv
 refine z0c hO [.ref 6,.shut] (d_p151 fu O.len hN h) ?_
 intro os Q hos hQ
 conv => cbv
 refine ⟨(by (rw [hos]) <;> (subst hO; rfl)),?_⟩
 intro r bs hq
 rw [hQ] at hq
 clear hos hQ h
 obtain ⟨y77,y78,y79,y80,y81,y82,_,⟨rfl,rfl⟩,h⟩ := hq
 conv => cbv
 refine z0v hO h (fun g => (by subst hO; exact g)) (fun h => ?_)
 conv => cbv
 rw [hQ]
 exact ⟨3,0,⟨#[]⟩,nilE,List.take 2 [[(CV.v (.int .i64 y55)),(CV.v (.int .i64 y56)),(CV.v (.string y57)),(CV.sl 3 y58 none),(CV.sl 5 y59 none)],[(CV.v (.int .i64 y66)),(CV.v (.int .i64 y67)),(CV.v (.string y68)),(CV.sl 3 y69 none),(CV.sl 5 y70 none)]],y77,y78,y79,y80,y81,y82,_,⟨(by subst hO; rfl),(by subst hO; rfl)⟩,h⟩
 conv => cbv
 refine br_h hO h (by subst hO; rfl) (fun hc7 h => ?_) (fun hc7 h => ?_)
 conv => cbv
 refine z0c hO [.ref 6,.shut] (ih_p143 O.len hN h) ?_
 intro os Q hos hQ
 conv => cbv
 refine ⟨(by (rw [hos]) <;> (subst hO; rfl)),?_⟩
 intro r bs hq
 rw [hQ] at hq
 clear hos hQ h
 obtain ⟨y83,y84,y85,y86,y87,y88,y89,y90,y91,y92,y93,_,⟨rfl,rfl⟩,h⟩ := hq
 conv => cbv
 refine z0c hO [.ref 6,.shut] (d_p151 fu O.len hN h) ?_
 intro os Q hos hQ
 conv => cbv
 refine ⟨(by (rw [hos]) <;> (subst hO; rfl)),?_⟩
 intro r bs hq
 rw [hQ] at hq
 clear hos hQ h
 obtain ⟨y94,y95,y96,y97,y98,y99,_,⟨rfl,rfl⟩,h⟩ := hq
 conv => cbv
 refine z0c hO [.ref 6,.shut] (ih_p143 O.len hN h) ?_
 intro os Q hos hQ
 conv => cbv
 refine ⟨(by (rw [hos]) <;> (subst hO; rfl)),?_⟩
 intro r bs hq
 rw [hQ] at hq
 clear hos hQ h
 obtain ⟨y100,y101,y102,y103,y104,y105,y106,y107,y108,y109,y110,_,⟨rfl,rfl⟩,h⟩ := hq
 conv => cbv
 refine z0c hO [.ref 6,.shut] (d_p151 fu O.len hN h) ?_
 intro os Q hos hQ
 conv => cbv
 refine ⟨(by (rw [hos]) <;> (subst hO; rfl)),?_⟩
 intro r bs hq
 rw [hQ] at hq
 clear hos hQ h
 obtain ⟨y111,y112,y113,y114,y115,y116,_,⟨rfl,rfl⟩,h⟩ := hq
 conv => cbv
 refine z0i hO tiA [[0],[],[],[]] [(0,true,false),(1,true,false),(2,true,false),(3,true,false),(4,true,false),(5,false,false),(6,false,true),(7,true,true),(8,false,true)] (by kernel_rfl) ?_
 conv => cbv
 refine z0c hO [.ref 6,.shut] (ih_p143 O.len hN h) ?_
 intro os Q hos hQ
 conv => cbv
 refine ⟨(by (rw [hos]) <;> (subst hO; rfl)),?_⟩
 intro r bs hq
 rw [hQ] at hq
 clear hos hQ h
 obtain ⟨y117,y118,y119,y120,y121,y122,y123,y124,y125,y126,y127,_,⟨rfl,rfl⟩,h⟩ := hq
 conv => cbv
 refine ⟨z0e hO (Nat.le_of_ble_eq_true rfl) rfl,?_⟩
 refine z0b hO ?_
 conv => cbv
 refine z0v hO h (fun g => (by subst hO; exact g)) (fun h => ?_)
 conv => cbv
 rw [hQ]
 exact ⟨6,0,⟨#[]⟩,nilE,List.take 3 [[(CV.v (.int .i64 y83)),(CV.v (.int .i64 y84)),(CV.v (.string y85)),(CV.sl 3 y86 none),(CV.sl 5 y87 none)],[(CV.v (.int .i64 y100)),(CV.v (.int .i64 y101)),(CV.v (.string y102)),(CV.sl 3 y103 none),(CV.sl 5 y104 none)],[(CV.v (.int .i64 y117)),(CV.v (.int .i64 y118)),(CV.v (.string y119)),(CV.sl 3 y120 none),(CV.sl 5 y121 none)]],y122,y123,y124,y125,y126,y127,_,⟨(by subst hO; rfl),(by subst hO; rfl)⟩,h⟩
 conv => cbv
 refine z0b hO ?_
 conv => cbv
 refine z0b hO ?_
 conv => cbv
 refine z0b hO ?_
 conv => cbv
 refine z0b hO ?_
 conv => cbv
 refine z0c hO [.ref 6,.shut] (ih_p143 O.len hN h) ?_
 intro os Q hos hQ
 conv => cbv
 refine ⟨(by (rw [hos]) <;> (subst hO; rfl)),?_⟩
 intro r bs hq
 rw [hQ] at hq
 clear hos hQ h
 obtain ⟨y128,y129,y130,y131,y132,y133,y134,y135,y136,y137,y138,_,⟨rfl,rfl⟩,h⟩ := hq
 conv => cbv
 refine z0c hO [.ref 6,.shut] (d_p151 fu O.len hN h) ?_
 intro os Q hos hQ
 conv => cbv
 refine ⟨(by (rw [hos]) <;> (subst hO; rfl)),?_⟩
 intro r bs hq
 rw [hQ] at hq
 clear hos hQ h
 obtain ⟨y139,y140,y141,y142,y143,y144,_,⟨rfl,rfl⟩,h⟩ := hq
 conv => cbv
 refine z5s hO tiA [[0]] (.op 0 true false (.op 1 true false (.op 2 true false (.op 3 true false (.alt 4 7 false false (.alt 5 7 true false (.op 6 true false (.op 7 false false (.op 8 false true .nil))) (.op 5 false true (.op 6 true false (.op 8 false true .nil)))) (.op 4 false false (.op 5 false true (.op 6 true false (.op 8 false true .nil))))))))) (by kernel_rfl) [4,5,11] [0,5000,12000,165000] [] (fun tm m => ∃ (j145 : EL) (j146 : ByteArray) (j147 : Int) (j148 : Int) (j149 : Int) (j150 : Int) (j151 : Int),((tm = frame 0 170 [(4,.p 5000 1 0),(5,.c (.v (.int .u8 y1))),(11,.p 12000 1 0)] ∧ m = ⟨[(0,.blk 0 [.c (.v (.string j146)),.c (.v (.int .i64 j147)),.c (.v (.int .i64 j148)),.c (.v (.int .i64 j149)),.c (.v (.int .i64 j150)),.c (.v (.int .i64 j151))]),(5000,.blk 1 [.c (.v (.int .i64 0)),.c (.v (.int .i64 0)),.c (.v (.string ⟨#[]⟩)),.c (.sl 3 [] (some [])),.c (.sl 5 [] (some []))]),(12000,.blk 1 [.c (.v (.int .i64 4)),.c (.v (.int .i64 0)),.c (.v (.string ⟨#[]⟩)),.c (.sl 3 [] (some [])),.t 165000 1 2]),(165000,.arr 1 5 j145 (some 2) false)],2⟩)) ∧ p143_2 False fu (p143 False fu) K0 y1 j145 j146 j147 j148 j149 j150 j151) (fun L hL_2 => ?_) ?_
 conv => cbv
 refine ⟨?_,?_⟩
 refine z0c hO [.ref 6,.shut] (ih_p143 O.len hN h) ?_
 intro os Q hos hQ
 conv => cbv
 refine ⟨(by (rw [hos]) <;> (subst hO; rfl)),?_⟩
 intro r bs hq
 rw [hQ] at hq
 clear hos hQ h
 obtain ⟨y153,y154,y155,y156,y157,y158,y159,y160,y161,y162,y163,_,⟨rfl,rfl⟩,h⟩ := hq
 conv => cbv
 refine ⟨z0e hO (Nat.le_of_ble_eq_true rfl) rfl,?_⟩
 refine ⟨?_,?_⟩
 refine ⟨z0e hO (Nat.le_of_ble_eq_true rfl) rfl,?_⟩
 exact hL_2 _ _ ⟨[[(CV.v (.int .i64 y128)),(CV.v (.int .i64 y129)),(CV.v (.string y130)),(CV.sl 3 y131 none),(CV.sl 5 y132 none)],[(CV.v (.int .i64 y153)),(CV.v (.int .i64 y154)),(CV.v (.string y155)),(CV.sl 3 y156 none),(CV.sl 5 y157 none)]],y158,y159,y160,y161,y162,y163,⟨(by (conv => lhs; cbv) <;> (subst hO; rfl)),(by (conv => lhs; cbv) <;> (subst hO; rfl))⟩,h⟩
 refine ⟨z0e hO (Nat.le_of_ble_eq_true rfl) rfl,?_⟩
 exact hL_2 _ _ ⟨[[(CV.v (.int .i64 y128)),(CV.v (.int .i64 y129)),(CV.v (.string y130)),(CV.sl 3 y131 none),(CV.sl 5 y132 none)],[(CV.v (.int .i64 y153)),(CV.v (.int .i64 y154)),(CV.v (.string y155)),(CV.sl 3 y156 none),(CV.sl 5 y157 none)]],y158,y159,y160,y161,y162,y163,⟨(by (conv => lhs; cbv) <;> (subst hO; rfl)),(by (conv => lhs; cbv) <;> (subst hO; rfl))⟩,h⟩
 refine ⟨z0e hO (Nat.le_of_ble_eq_true rfl) rfl,?_⟩
 refine z0c hO [.ref 6,.shut] (ih_p143 O.len hN h) ?_
 intro os Q hos hQ
 conv => cbv
 refine ⟨(by (rw [hos]) <;> (subst hO; rfl)),?_⟩
 intro r bs hq
 rw [hQ] at hq
 clear hos hQ h
 obtain ⟨y153,y154,y155,y156,y157,y158,y159,y160,y161,y162,y163,_,⟨rfl,rfl⟩,h⟩ := hq
 conv => cbv
 refine ⟨z0e hO (Nat.le_of_ble_eq_true rfl) rfl,?_⟩
 exact hL_2 _ _ ⟨[[(CV.v (.int .i64 y128)),(CV.v (.int .i64 y129)),(CV.v (.string y130)),(CV.sl 3 y131 none),(CV.sl 5 y132 none)],[(CV.v (.int .i64 y153)),(CV.v (.int .i64 y154)),(CV.v (.string y155)),(CV.sl 3 y156 none),(CV.sl 5 y157 none)]],y158,y159,y160,y161,y162,y163,⟨(by (conv => lhs; cbv) <;> (subst hO; rfl)),(by (conv => lhs; cbv) <;> (subst hO; rfl))⟩,h⟩
 rintro tm m ⟨j145,j146,j147,j148,j149,j150,j151,hs,h⟩
 unfold p143_2 at h
 obtain ⟨rfl,rfl⟩ := hs
 conv => cbv
 refine z0h hO tiA h (by subst hO; rfl) [4,11] [0,5000,12000,165000] [] (fun tm m => ∃ (j152 : Int),((tm = frame 0 170 [(4,.p 5000 1 0),(11,.p 12000 1 0)] ∧ m = ⟨[(0,.blk 0 [.c (.v (.string j146)),.c (.v (.int .i64 j147)),.c (.v (.int .i64 j148)),.c (.v (.int .i64 j149)),.c (.v (.int .i64 j150)),.c (.v (.int .i64 j151))]),(5000,.blk 1 [.c (.v (.int .i64 0)),.c (.v (.int .i64 0)),.c (.v (.string ⟨#[]⟩)),.c (.sl 3 [] (some [])),.c (.sl 5 [] (some []))]),(12000,.blk 1 [.c (.v (.int .i64 j152)),.c (.v (.int .i64 0)),.c (.v (.string ⟨#[]⟩)),.c (.sl 3 [] (some [])),.t 165000 1 2]),(165000,.arr 1 5 j145 (some 2) false)],2⟩)) ∧ p143_1 False fu (p143 False fu) K0 j145 j146 j147 j148 j149 j150 j151 j152) (fun hc8 h L hL_1 => ?_) (fun hc8 h L hL_1 => ?_) ?_
 conv => cbv
 exact hL_1 _ _ ⟨5,⟨(by (conv => lhs; cbv) <;> (subst hO; rfl)),(by (conv => lhs; cbv) <;> (subst hO; rfl))⟩,h⟩
 conv => cbv
 exact hL_1 _ _ ⟨4,⟨(by (conv => lhs; cbv) <;> (subst hO; rfl)),(by (conv => lhs; cbv) <;> (subst hO; rfl))⟩,h⟩
 rintro tm m ⟨j152,hs,h⟩
 unfold p143_1 at h
 obtain ⟨rfl,rfl⟩ := hs
 conv => cbv
 refine z0v hO h (fun g => (by subst hO; exact g)) (fun h => ?_)
 conv => cbv
 rw [hQ]
 exact ⟨j152,0,⟨#[]⟩,nilE,List.take 2 j145,j146,j147,j148,j149,j150,j151,_,⟨(by subst hO; rfl),(by subst hO; rfl)⟩,h⟩
theorem dd_p143 (fu : Nat) : D_p143 fu := by
 induction fu with
 | zero => unfold D_p143; intros; rename_i h; rw [p143] at h; exact h.elim
 | succ n ih =>
  exact (by unfold D_p143; intro K0 L hN x0 x1 x2 x3 x4 x5 x6 h; exact b_p143 n ih L hN (by rw [p143] at h; exact h))
theorem d_p143 (fu : Nat) : D_p143 fu := dd_p143 fu
theorem d_p144 (fu : Nat) {K0 : ByteArray → Int → Int → Int → Int → Int → Prop} (L : EL → Nat) (hN : L = List.length) {x0 : ByteArray} {x1 x2 x3 x4 x5 : Int} (h : p144 False fu K0 x0 x1 x2 x3 x4 x5) : Den Try.prog G0 144 [.ptr [.c (.v (.string x0)),.c (.v (.int .i64 x1)),.c (.v (.int .i64 x2)),.c (.v (.int .i64 x3)),.c (.v (.int .i64 x4)),.c (.v (.int .i64 x5))]] (fun r bs => (∃ (y0 : ByteArray) (y1 y2 y3 y4 y5 : Int),(r = .tup [] ∧ bs = [.ptr [.c (.v (.string y0)),.c (.v (.int .i64 y1)),.c (.v (.int .i64 y2)),.c (.v (.int .i64 y3)),.c (.v (.int .i64 y4)),.c (.v (.int .i64 y5))]]) ∧ K0 y0 y1 y2 y3 y4 y5)) := by
 obtain ⟨O,hO⟩ : ∃ O,O = std 1 T G0 (Den Try.prog G0) := ⟨_,rfl⟩
 have hLO : L = O.len := by rw [hN,hO]; rfl
 subst hLO
 refine den_h hO tiA mixed tabOk (fn := Try.f144) (sh := true) (by kernel_rfl) rfl rfl rfl rfl ?_
 intro Q hQ
 unfold p144 at h
 conv => cbv
 refine z0c hO [.ref 6] (d_p152 fu O.len hN h) ?_
 intro os Q hos hQ
 conv => cbv
 refine ⟨(by (rw [hos]) <;> (subst hO; rfl)),?_⟩
 intro r bs hq
 rw [hQ] at hq
 clear hos hQ h
 obtain ⟨y1,y2,y3,y4,y5,y6,⟨rfl,rfl⟩,h⟩ := hq
 conv => cbv
 refine z0i hO tiA [[]] [(0,true,false),(1,true,false),(2,true,false),(3,true,false),(4,true,false),(5,true,false),(6,true,false),(7,true,false),(8,true,false),(9,true,true)] (by kernel_rfl) ?_
 conv => cbv
 refine z0b hO ?_
 conv => cbv
 refine z0h hO tiA h (by subst hO; rfl) [] [0] [] (fun tm m => ∃ (j7 : ByteArray) (j8 : Int) (j9 : Int) (j10 : Int) (j11 : Int) (j12 : Int),((tm = frame 0 20 [] ∧ m = ⟨[(0,.blk 0 [.c (.v (.string j7)),.c (.v (.int .i64 j8)),.c (.v (.int .i64 j9)),.c (.v (.int .i64 j10)),.c (.v (.int .i64 j11)),.c (.v (.int .i64 j12))])],2⟩)) ∧ p144_1 False fu K0 j7 j8 j9 j10 j11 j12) (fun hc1 h L hL_1 => ?_) (fun hc1 h L hL_1 => ?_) ?_
 conv => cbv
 refine z0c hO [.ref 6,.shut,.shut] (d_p147 fu O.len hN h) ?_
 intro os Q hos hQ
 conv => cbv
 refine ⟨(by (rw [hos]) <;> (subst hO; rfl)),?_⟩
 intro r bs hq
 rw [hQ] at hq
 clear hos hQ h
 obtain ⟨y13,y14,y15,y16,y17,y18,_,_,⟨rfl,rfl⟩,h⟩ := hq
 conv => cbv
 exact hL_1 _ _ ⟨y13,y14,y15,y16,y17,y18,⟨(by (conv => lhs; cbv) <;> (subst hO; rfl)),(by (conv => lhs; cbv) <;> (subst hO; rfl))⟩,h⟩
 conv => cbv
 exact hL_1 _ _ ⟨y1,y2,y3,y4,y5,y6,⟨(by (conv => lhs; cbv) <;> (subst hO; rfl)),(by (conv => lhs; cbv) <;> (subst hO; rfl))⟩,h⟩
 rintro tm m ⟨j7,j8,j9,j10,j11,j12,hs,h⟩
 unfold p144_1 at h
 obtain ⟨rfl,rfl⟩ := hs
 conv => cbv
 rw [hQ]
 exact ⟨j7,j8,j9,j10,j11,j12,⟨(by subst hO; rfl),(by subst hO; rfl)⟩,h⟩
theorem d_p134 (fu : Nat) {K0 : Int → Int → ByteArray → EL → EL → Int → Int → Prop} (L : EL → Nat) (hN : L = List.length) {x0 : ByteArray} (h : p134 False fu K0 x0) : Den Try.prog G0 134 [.c (.v (.string x0))] (fun r bs => (∃ (y0 y1 : Int) (y2 : ByteArray) (y3 y4 : EL) (y5 y6 : Int) (o0 : OV),(r = .tup [.agg [.c (.v (.int .i64 y0)),.c (.v (.int .i64 y1)),.c (.v (.string y2)),.c (.sl 3 y3 none),.c (.sl 5 y4 none)],.c (.v (.int .i64 y5)),.c (.v (.int .i64 y6))] ∧ bs = [o0]) ∧ K0 y0 y1 y2 y3 y4 y5 y6)) := by
 obtain ⟨O,hO⟩ : ∃ O,O = std 0 T G0 (Den Try.prog G0) := ⟨_,rfl⟩
 have hLO : L = O.len := by rw [hN,hO]; rfl
 subst hLO
 refine den_h hO tiA mixed tabOk (fn := Try.f134) (sh := true) (by kernel_rfl) rfl rfl rfl rfl ?_
 intro Q hQ
 unfold p134 at h
 conv => cbv
 refine br_h hO h (by subst hO; rfl) (fun hc1 h => ?_) (fun hc1 h => ?_)
 conv => cbv
 rw [hQ]
 exact ⟨0,0,⟨#[]⟩,nilE,nilE,0,3,_,⟨(by subst hO; rfl),(by subst hO; rfl)⟩,h⟩
 conv => cbv
 refine z0b hO ?_
 conv => cbv
 refine z0c hO [.ref 6,.shut] (d_p143 fu O.len hN h) ?_
 intro os Q hos hQ
 conv => cbv
 refine ⟨(by (rw [hos]) <;> (subst hO; rfl)),?_⟩
 intro r bs hq
 rw [hQ] at hq
 clear hos hQ h
 obtain ⟨y1,y2,y3,y4,y5,y6,y7,y8,y9,y10,y11,_,⟨rfl,rfl⟩,h⟩ := hq
 conv => cbv
 refine z0c hO [.ref 6] (d_p144 fu O.len hN h) ?_
 intro os Q hos hQ
 conv => cbv
 refine ⟨(by (rw [hos]) <;> (subst hO; rfl)),?_⟩
 intro r bs hq
 rw [hQ] at hq
 clear hos hQ h
 obtain ⟨y12,y13,y14,y15,y16,y17,⟨rfl,rfl⟩,h⟩ := hq
 conv => cbv
 refine br_h hO h (by subst hO; rfl) (fun hc2 h => ?_) (fun hc2 h => ?_)
 conv => cbv
 refine z0i hO tiA [[],[]] [(0,true,false),(1,true,false),(2,true,false),(3,true,false),(4,true,false),(5,true,false),(6,true,false),(7,true,false),(8,true,false),(9,false,false),(10,true,false),(11,true,true)] (by kernel_rfl) ?_
 conv => cbv
 refine ⟨z0e hO (Nat.le_of_ble_eq_true rfl) rfl,?_⟩
 refine z0b hO ?_
 conv => cbv
 rw [hQ]
 exact ⟨0,0,⟨#[]⟩,nilE,nilE,y15,y14,_,⟨(by subst hO; rfl),(by subst hO; rfl)⟩,h⟩
 conv => cbv
 refine z0b hO ?_
 conv => cbv
 rw [hQ]
 exact ⟨y1,y2,y3,y4,y5,0,0,_,⟨(by subst hO; rfl),(by subst hO; rfl)⟩,h⟩
theorem d_p104 (fu : Nat) {K0 : Int → Int → ByteArray → EL → EL → Prop} (L : EL → Nat) (hN : L = List.length) {x0 : ByteArray} (h : p104 False fu K0 x0) : Den Try.prog G0 104 [.c (.v (.string x0))] (fun r bs => (∃ (y0 y1 : Int) (y2 : ByteArray) (y3 y4 : EL) (o0 : OV),(r = .agg [.c (.v (.int .i64 y0)),.c (.v (.int .i64 y1)),.c (.v (.string y2)),.c (.sl 3 y3 none),.c (.sl 5 y4 none)] ∧ bs = [o0]) ∧ K0 y0 y1 y2 y3 y4)) := by
 obtain ⟨O,hO⟩ : ∃ O,O = std 0 T G0 (Den Try.prog G0) := ⟨_,rfl⟩
 have hLO : L = O.len := by rw [hN,hO]; rfl
 subst hLO
 refine den_h hO tiA mixed tabOk (fn := Try.f104) (sh := true) (by kernel_rfl) rfl rfl rfl rfl ?_
 intro Q hQ
 unfold p104 at h
 conv => cbv
 refine z0c hO [.shut] (d_p134 fu O.len hN h) ?_
 intro os Q hos hQ
 conv => cbv
 refine ⟨(by (rw [hos]) <;> (subst hO; rfl)),?_⟩
 intro r bs hq
 rw [hQ] at hq
 clear hos hQ h
 obtain ⟨y1,y2,y3,y4,y5,y6,y7,_,⟨rfl,rfl⟩,h⟩ := hq
 conv => cbv
 rw [hQ]
 exact ⟨y1,y2,y3,y4,y5,_,⟨(by subst hO; rfl),(by subst hO; rfl)⟩,h⟩
theorem d_p57 (fu : Nat) {K0 : Int → Int → ByteArray → EL → EL → Prop} (L : EL → Nat) (hN : L = List.length) {x0 : ByteArray} (h : p57 False fu K0 x0) : Den Try.prog G0 57 [.c (.v (.string x0))] (fun r bs => (∃ (y0 y1 : Int) (y2 : ByteArray) (y3 y4 : EL) (o0 : OV),(r = .agg [.c (.v (.int .i64 y0)),.c (.v (.int .i64 y1)),.c (.v (.string y2)),.c (.sl 3 y3 none),.c (.sl 5 y4 none)] ∧ bs = [o0]) ∧ K0 y0 y1 y2 y3 y4)) := by
 obtain ⟨O,hO⟩ : ∃ O,O = std 0 T G0 (Den Try.prog G0) := ⟨_,rfl⟩
 have hLO : L = O.len := by rw [hN,hO]; rfl
 subst hLO
 refine den_h hO tiA mixed tabOk (fn := Try.f57) (sh := true) (by kernel_rfl) rfl rfl rfl rfl ?_
 intro Q hQ
 unfold p57 at h
 conv => cbv
 refine z0c hO [.shut] (d_p104 fu O.len hN h) ?_
 intro os Q hos hQ
 conv => cbv
 refine ⟨(by (rw [hos]) <;> (subst hO; rfl)),?_⟩
 intro r bs hq
 rw [hQ] at hq
 clear hos hQ h
 obtain ⟨y1,y2,y3,y4,y5,_,⟨rfl,rfl⟩,h⟩ := hq
 conv => cbv
 rw [hQ]
 exact ⟨y1,y2,y3,y4,y5,_,⟨(by subst hO; rfl),(by subst hO; rfl)⟩,h⟩
def D_p132b (fu : Nat) : Prop := ∀ {K0 : Int → Int → EL → Prop} (L : EL → Nat) (_ : L = List.length) {x0 x1 : Int} {x2 x3 : EL} (_ : p132b False fu K0 x0 x1 x2 x3),Den Try.prog G0 132 [.agg [.c (.v (.int .i64 x0)),.c (.v (.int .i64 x1)),.c (.sl 3 x2 none)],.c (.sl 3 x3 none)] (fun r bs => (∃ (y0 y1 : Int) (y2 : EL) (o0 o1 : OV),(r = .agg [.c (.v (.int .i64 y0)),.c (.v (.int .i64 y1)),.c (.sl 3 y2 none)] ∧ bs = [o0,o1]) ∧ K0 y0 y1 y2))
def D_p101 (fu : Nat) : Prop := ∀ {K0 : Int → Int → EL → Prop} (L : EL → Nat) (_ : L = List.length) {x0 x1 : Int} {x2 : EL} (_ : p101 False fu K0 x0 x1 x2),Den Try.prog G0 101 [.agg [.c (.v (.int .i64 x0)),.c (.v (.int .i64 x1)),.c (.sl 3 x2 none)]] (fun r bs => (∃ (y0 y1 : Int) (y2 : EL) (o0 : OV),(r = .agg [.c (.v (.int .i64 y0)),.c (.v (.int .i64 y1)),.c (.sl 3 y2 none)] ∧ bs = [o0]) ∧ K0 y0 y1 y2))
theorem b_p132b (fu : Nat) (ih_p132b : D_p132b fu) (ih_p101 : D_p101 fu) {K0 : Int → Int → EL → Prop} (L : EL → Nat) (hN : L = List.length) {x0 x1 : Int} {x2 x3 : EL} (h : p132b_b False fu (p132b False fu) (p101 False fu) K0 x0 x1 x2 x3) : Den Try.prog G0 132 [.agg [.c (.v (.int .i64 x0)),.c (.v (.int .i64 x1)),.c (.sl 3 x2 none)],.c (.sl 3 x3 none)] (fun r bs => (∃ (y0 y1 : Int) (y2 : EL) (o0 o1 : OV),(r = .agg [.c (.v (.int .i64 y0)),.c (.v (.int .i64 y1)),.c (.sl 3 y2 none)] ∧ bs = [o0,o1]) ∧ K0 y0 y1 y2)) := by
 obtain ⟨O,hO⟩ : ∃ O,O = std 0 T G0 (Den Try.prog G0) := ⟨_,rfl⟩
 have hLO : L = O.len := by rw [hN,hO]; rfl
 subst hLO
 refine den_h hO tiA mixed tabOk (fn := Try.f132) (sh := true) (by kernel_rfl) rfl rfl rfl rfl ?_
 intro Q hQ
 unfold p132b_b at h
 conv => cbv
 refine z0l hO tiA [1,2,4,21] [3000,5000] [] (fun tm m => ∃ (j1 : Bool),((tm = frame 0 53 [(1,.c (.sl 3 x3 none)),(2,.p 3000 0 0),(4,.p 5000 0 0),(21,.c (.v (.bool j1)))] ∧ m = ⟨[(3000,.blk 0 [.c (.v (.int .i64 x0)),.c (.v (.int .i64 x1)),.c (.sl 3 x2 none)]),(5000,.blk 0 [.c (.v (.int .i64 0)),.c (.v (.int .i64 0)),.c (.sl 3 [] (some []))])],1⟩)) ∧ p132b_2 False fu (p132b False fu) (p101 False fu) K0 x0 x1 x2 x3 j1) (fun L hL_2 => ?_) ?_
 conv => cbv
 refine br_h hO h (by subst hO; rfl) (fun hc3 h => ?_) (fun hc3 h => ?_)
 conv => cbv
 refine br_t hO hc3 ?_
 conv => cbv
 refine br_t hO hc3 ?_
 conv => cbv
 refine br_t hO hc3 ?_
 conv => cbv
 refine br_h hO h (by subst hO; rfl) (fun hc4 h => ?_) (fun hc4 h => ?_)
 conv => cbv
 refine br_t hO hc4 ?_
 conv => cbv
 refine br_t hO hc4 ?_
 conv => cbv
 refine br_t hO hc4 ?_
 conv => cbv
 refine br_t hO hc4 ?_
 conv => cbv
 refine br_t hO hc4 ?_
 conv => cbv
 exact hL_2 _ _ ⟨(z0a .lss x1 ((x3.length : Nat) : Int)),⟨(by (conv => lhs; cbv) <;> (subst hO; rfl)),(by (conv => lhs; cbv) <;> (subst hO; rfl))⟩,h⟩
 conv => cbv
 refine br_f hO hc4 ?_
 conv => cbv
 refine br_f hO hc4 ?_
 conv => cbv
 refine br_f hO hc4 ?_
 conv => cbv
 refine br_f hO hc4 ?_
 conv => cbv
 refine br_f hO hc4 ?_
 conv => cbv
 exact hL_2 _ _ ⟨false,⟨(by (conv => lhs; cbv) <;> (subst hO; rfl)),(by (conv => lhs; cbv) <;> (subst hO; rfl))⟩,h⟩
 conv => cbv
 refine br_f hO hc3 ?_
 conv => cbv
 refine br_f hO hc3 ?_
 conv => cbv
 refine br_f hO hc3 ?_
 conv => cbv
 refine br_f hO rfl ?_
 conv => cbv
 refine br_f hO rfl ?_
 conv => cbv
 refine br_f hO rfl ?_
 conv => cbv
 refine br_f hO rfl ?_
 conv => cbv
 refine br_f hO rfl ?_
 conv => cbv
 refine br_f hO rfl ?_
 conv => cbv
 exact hL_2 _ _ ⟨false,⟨(by (conv => lhs; cbv) <;> (subst hO; rfl)),(by (conv => lhs; cbv) <;> (subst hO; rfl))⟩,h⟩
 rintro tm m ⟨j1,hs,h⟩
 unfold p132b_2 at h
 obtain ⟨rfl,rfl⟩ := hs
 conv => cbv
 refine br_h hO h (by subst hO; rfl) (fun hc1 h => ?_) (fun hc1 h => ?_)
 conv => cbv
 refine and_h h (fun g => (by subst hO; exact g)) (fun h => ?_)
 refine and_h h (fun g => (by subst hO; exact g)) (fun h => ?_)
 obtain ⟨c2,c3,c4,hr,h⟩ := z0k h
 refine z0o hO _ (by subst hO; exact hr) ?_
 clear hr
 conv => cbv
 refine z0c hO [.shut] (ih_p101 O.len hN h) ?_
 intro os Q hos hQ
 conv => cbv
 refine ⟨(by (rw [hos]) <;> (subst hO; rfl)),?_⟩
 intro r bs hq
 rw [hQ] at hq
 clear hos hQ h
 obtain ⟨y5,y6,y7,_,⟨rfl,rfl⟩,h⟩ := hq
 conv => cbv
 rw [hQ]
 exact ⟨y5,y6,y7,_,_,⟨(by subst hO; rfl),(by subst hO; rfl)⟩,h⟩
 conv => cbv
 refine z0b hO ?_
 conv => cbv
 refine z0s hO tiA [1,2,4,5,6] [3000,5000,6000,51000] [] (fun (n : Nat) tm m => ∃ (z8 : EL) (z9 : Int),((z8 = [] ∧ tm = frame 0 53 [(1,.c (.sl 3 x3 none)),(2,.p 3000 0 0),(4,.p 5000 0 0),(5,.p 6000 0 0),(6,.c (.v (.int .i64 z9)))] ∧ m = ⟨[(3000,.blk 0 [.c (.v (.int .i64 x0)),.c (.v (.int .i64 x1)),.c (.sl 3 x2 none)]),(5000,.blk 0 [.c (.v (.int .i64 0)),.c (.v (.int .i64 0)),.c (.sl 3 [] (some []))]),(6000,.blk 0 [.c (.v (.int .i64 x0)),.c (.v (.int .i64 x1)),.c (.sl 3 [] (some []))])],1⟩) ∨ (tm = frame 0 53 [(1,.c (.sl 3 x3 none)),(2,.p 3000 0 0),(4,.p 5000 0 0),(5,.p 6000 0 0),(6,.c (.v (.int .i64 z9)))] ∧ m = ⟨[(3000,.blk 0 [.c (.v (.int .i64 x0)),.c (.v (.int .i64 x1)),.c (.sl 3 x2 none)]),(5000,.blk 0 [.c (.v (.int .i64 0)),.c (.v (.int .i64 0)),.c (.sl 3 [] (some []))]),(6000,.blk 0 [.c (.v (.int .i64 x0)),.c (.v (.int .i64 x1)),.t 51000 0 (O.len z8)]),(51000,.arr 0 3 z8 none false)],1⟩)) ∧ p132b_1L False fu (p132b False fu) (p101 False fu) K0 x0 x1 x2 x3 n z8 z9) (fun n => n) fu ⟨nilE,0,(.inl ⟨rfl,(by (conv => lhs; cbv) <;> (subst hO; rfl)),(by (conv => lhs; cbv) <;> (subst hO; rfl))⟩),h⟩ ?_
 rintro n1 tm m L ⟨z8,z9,hs,h⟩ hLn1
 (cases n1 with
 | zero => rw [p132b_1L] at h; exact h.elim
 | succ n1 =>
 rw [p132b_1L] at h
 unfold p132b_1 at h
 rcases hs with hs | hs
 obtain ⟨rfl,rfl,rfl⟩ := hs
 conv => cbv
 refine br_h hO h (by subst hO; rfl) (fun hc2 h => ?_) (fun hc2 h => ?_)
 conv => cbv
 refine z0b hO ?_
 conv => cbv
 refine z0i hO tiA [[],[],[],[],[]] [(0,true,false),(1,true,false),(2,true,false),(3,true,false),(4,true,false),(5,true,false),(6,true,false),(7,true,false),(8,false,false),(9,false,false),(10,false,true),(11,true,true),(12,false,true)] (by kernel_rfl) ?_
 conv => cbv
 refine and_h h (fun g => (by subst hO; exact g)) (fun h => ?_)
 refine and_h h (fun g => (by subst hO; exact g)) (fun h => ?_)
 obtain ⟨c10,c11,c12,hr,h⟩ := z0k h
 refine z0o hO _ (by subst hO; exact hr) ?_
 clear hr
 conv => cbv
 refine z0c hO [.shut,.shut] (ih_p132b O.len hN h) ?_
 intro os Q hos hQ
 conv => cbv
 refine ⟨(by (rw [hos]) <;> (subst hO; rfl)),?_⟩
 intro r bs hq
 rw [hQ] at hq
 clear hos hQ h
 obtain ⟨y13,y14,y15,_,_,⟨rfl,rfl⟩,h⟩ := hq
 conv => cbv
 refine ⟨z0e hO (Nat.le_of_ble_eq_true rfl) rfl,?_⟩
 refine ⟨z0e hO (Nat.le_of_ble_eq_true rfl) rfl,?_⟩
 refine z0v hO h (fun g => (by subst hO; exact g)) (fun h => ?_)
 conv => cbv
 refine and_h h (fun g => (by subst hO; exact g)) (fun h => ?_)
 refine z3r hO (by subst hO; exact List.cons_ne_nil _ _) ?_
 conv => cbv
 refine z0b hO ?_
 conv => cbv
 exact hLn1 n1 _ _ (Nat.lt_succ_self n1) ⟨(nilE ++ (List.take 1 [[(CV.v (.int .i64 y13)),(CV.v (.int .i64 y14)),(CV.sl 3 y15 none)]])),z0d .add .i64 z9 1,(.inr ⟨(by (conv => lhs; cbv) <;> (subst hO; rfl)),(by (conv => lhs; cbv) <;> (subst hO; rfl))⟩),h⟩
 conv => cbv
 rw [hQ]
 exact ⟨x0,x1,nilE,_,_,⟨(by subst hO; rfl),(by subst hO; rfl)⟩,h⟩
 obtain ⟨rfl,rfl⟩ := hs
 conv => cbv
 refine br_h hO h (by subst hO; rfl) (fun hc2 h => ?_) (fun hc2 h => ?_)
 conv => cbv
 refine z0b hO ?_
 conv => cbv
 refine z0i hO tiA [[],[],[],[],[]] [(0,true,false),(1,true,false),(2,true,false),(3,true,false),(4,true,false),(5,true,false),(6,true,false),(7,true,false),(8,false,false),(9,false,false),(10,false,true),(11,true,true),(12,false,true)] (by kernel_rfl) ?_
 conv => cbv
 refine and_h h (fun g => (by subst hO; exact g)) (fun h => ?_)
 refine and_h h (fun g => (by subst hO; exact g)) (fun h => ?_)
 obtain ⟨c10,c11,c12,hr,h⟩ := z0k h
 refine z0o hO _ (by subst hO; exact hr) ?_
 clear hr
 conv => cbv
 refine z0c hO [.shut,.shut] (ih_p132b O.len hN h) ?_
 intro os Q hos hQ
 conv => cbv
 refine ⟨(by (rw [hos]) <;> (subst hO; rfl)),?_⟩
 intro r bs hq
 rw [hQ] at hq
 clear hos hQ h
 obtain ⟨y13,y14,y15,_,_,⟨rfl,rfl⟩,h⟩ := hq
 conv => cbv
 refine ⟨z0e hO (Nat.le_of_ble_eq_true rfl) rfl,?_⟩
 refine ⟨z0e hO (Nat.le_of_ble_eq_true rfl) rfl,?_⟩
 refine z0v hO h (fun g => (by subst hO; exact g)) (fun h => ?_)
 conv => cbv
 refine ⟨(by subst hO; rfl),?_⟩
 refine and_h h (fun g => (by subst hO; exact g)) (fun h => ?_)
 refine z0b hO ?_
 conv => cbv
 exact hLn1 n1 _ _ (Nat.lt_succ_self n1) ⟨(z8 ++ (List.take 1 [[(CV.v (.int .i64 y13)),(CV.v (.int .i64 y14)),(CV.sl 3 y15 none)]])),z0d .add .i64 z9 1,(.inr ⟨(by (conv => lhs; cbv) <;> (subst hO; rfl)),(by (conv => lhs; cbv) <;> (subst hO; rfl))⟩),h⟩
 conv => cbv
 refine z0m hO ?_
 conv => cbv
 rw [hQ]
 exact ⟨x0,x1,z8,_,_,⟨(by subst hO; rfl),(by subst hO; rfl)⟩,h⟩)
theorem b_p101 (fu : Nat) (ih_p132b : D_p132b fu) (ih_p101 : D_p101 fu) {K0 : Int → Int → EL → Prop} (L : EL → Nat) (hN : L = List.length) {x0 x1 : Int} {x2 : EL} (h : p101_b False fu (p132b False fu) (p101 False fu) K0 x0 x1 x2) : Den Try.prog G0 101 [.agg [.c (.v (.int .i64 x0)),.c (.v (.int .i64 x1)),.c (.sl 3 x2 none)]] (fun r bs => (∃ (y0 y1 : Int) (y2 : EL) (o0 : OV),(r = .agg [.c (.v (.int .i64 y0)),.c (.v (.int .i64 y1)),.c (.sl 3 y2 none)] ∧ bs = [o0]) ∧ K0 y0 y1 y2)) := by
 obtain ⟨O,hO⟩ : ∃ O,O = std 0 T G0 (Den Try.prog G0) := ⟨_,rfl⟩
 have hLO : L = O.len := by rw [hN,hO]; rfl
 subst hLO
 refine den_h hO tiA mixed tabOk (fn := Try.f101) (sh := true) (by kernel_rfl) rfl rfl rfl rfl ?_
 intro Q hQ
 unfold p101_b at h
 conv => cbv
 refine z0c hO [.shut,.shut] (ih_p132b O.len hN h) ?_
 intro os Q hos hQ
 conv => cbv
 refine ⟨(by (rw [hos]) <;> (subst hO; rfl)),?_⟩
 intro r bs hq
 rw [hQ] at hq
 clear hos hQ h
 obtain ⟨y1,y2,y3,_,_,⟨rfl,rfl⟩,h⟩ := hq
 conv => cbv
 rw [hQ]
 exact ⟨y1,y2,y3,_,⟨(by subst hO; rfl),(by subst hO; rfl)⟩,h⟩
theorem dd_p132b (fu : Nat) : D_p132b fu ∧ D_p101 fu := by
 induction fu with
 | zero => exact ⟨(by unfold D_p132b; intros; rename_i h; rw [p132b] at h; exact h.elim),(by unfold D_p101; intros; rename_i h; rw [p101] at h; exact h.elim)⟩
 | succ n ih =>
  obtain ⟨i0,i1⟩ := ih
  exact ⟨(by unfold D_p132b; intro K0 L hN x0 x1 x2 x3 h; exact b_p132b n i0 i1 L hN (by rw [p132b] at h; exact h)),(by unfold D_p101; intro K0 L hN x0 x1 x2 h; exact b_p101 n i0 i1 L hN (by rw [p101] at h; exact h))⟩
theorem d_p101 (fu : Nat) : D_p101 fu := (dd_p132b fu).2
theorem d_p135 (fu : Nat) {K0 : Int → Int → ByteArray → EL → EL → Prop} (L : EL → Nat) (hN : L = List.length) {x0 x1 : Int} {x2 : ByteArray} {x3 x4 : EL} (h : p135 False fu K0 x0 x1 x2 x3 x4) : Den Try.prog G0 135 [.agg [.c (.v (.int .i64 x0)),.c (.v (.int .i64 x1)),.c (.v (.string x2)),.c (.sl 3 x3 none),.c (.sl 5 x4 none)]] (fun r bs => (∃ (y0 y1 : Int) (y2 : ByteArray) (y3 y4 : EL) (o0 : OV),(y3 = [] ∧ y4 = [] ∧ r = .agg [.c (.v (.int .i64 y0)),.c (.v (.int .i64 y1)),.c (.v (.string y2)),.c (.sl 3 [] (some [])),.c (.sl 5 [] (some []))] ∧ bs = [o0]) ∧ K0 y0 y1 y2 y3 y4) ∨ (∃ (y0 y1 : Int) (y2 : ByteArray) (y3 y4 : EL) (o0 : OV),(y4 = [] ∧ r = .agg [.c (.v (.int .i64 y0)),.c (.v (.int .i64 y1)),.c (.v (.string y2)),.arr 3 y3 none false (L y3),.c (.sl 5 [] (some []))] ∧ bs = [o0]) ∧ K0 y0 y1 y2 y3 y4)) := by
 obtain ⟨O,hO⟩ : ∃ O,O = std 0 T G0 (Den Try.prog G0) := ⟨_,rfl⟩
 have hLO : L = O.len := by rw [hN,hO]; rfl
 subst hLO
 refine den_h hO tiA mixed tabOk (fn := Try.f135) (sh := false) (by kernel_rfl) rfl rfl rfl rfl ?_
 intro Q hQ
 unfold p135 at h
 conv => cbv
 refine z0s hO tiA [1,2,3,4] [2000,3000,4000,29000] [] (fun (n : Nat) tm m => ∃ (z1 : EL) (z2 : Int),((z1 = [] ∧ tm = frame 0 31 [(1,.p 2000 0 0),(2,.p 3000 0 0),(3,.p 4000 0 0),(4,.c (.v (.int .i64 z2)))] ∧ m = ⟨[(2000,.blk 0 [.c (.v (.int .i64 x0)),.c (.v (.int .i64 x1)),.c (.v (.string x2)),.c (.sl 3 x3 none),.c (.sl 5 x4 none)]),(3000,.blk 0 [.c (.v (.int .i64 0)),.c (.v (.int .i64 0)),.c (.v (.string ⟨#[]⟩)),.c (.sl 3 [] (some [])),.c (.sl 5 [] (some []))]),(4000,.blk 0 [.c (.v (.int .i64 x0)),.c (.v (.int .i64 x1)),.c (.v (.string x2)),.c (.sl 3 [] (some [])),.c (.sl 5 [] (some []))])],1⟩) ∨ (tm = frame 0 31 [(1,.p 2000 0 0),(2,.p 3000 0 0),(3,.p 4000 0 0),(4,.c (.v (.int .i64 z2)))] ∧ m = ⟨[(2000,.blk 0 [.c (.v (.int .i64 x0)),.c (.v (.int .i64 x1)),.c (.v (.string x2)),.c (.sl 3 x3 none),.c (.sl 5 x4 none)]),(3000,.blk 0 [.c (.v (.int .i64 0)),.c (.v (.int .i64 0)),.c (.v (.string ⟨#[]⟩)),.c (.sl 3 [] (some [])),.c (.sl 5 [] (some []))]),(4000,.blk 0 [.c (.v (.int .i64 x0)),.c (.v (.int .i64 x1)),.c (.v (.string x2)),.t 29000 0 (O.len z1),.c (.sl 5 [] (some []))]),(29000,.arr 0 3 z1 none false)],1⟩)) ∧ p135_1L False fu K0 x0 x1 x2 x3 n z1 z2) (fun n => n) fu ⟨nilE,0,(.inl ⟨rfl,(by (conv => lhs; cbv) <;> (subst hO; rfl)),(by (conv => lhs; cbv) <;> (subst hO; rfl))⟩),h⟩ ?_
 rintro n1 tm m L ⟨z1,z2,hs,h⟩ hLn1
 (cases n1 with
 | zero => rw [p135_1L] at h; exact h.elim
 | succ n1 =>
 rw [p135_1L] at h
 unfold p135_1 at h
 rcases hs with hs | hs
 obtain ⟨rfl,rfl,rfl⟩ := hs
 conv => cbv
 refine br_h hO h (by subst hO; rfl) (fun hc1 h => ?_) (fun hc1 h => ?_)
 conv => cbv
 refine z0b hO ?_
 conv => cbv
 refine z0i hO tiA [[],[],[],[],[]] [(0,true,false),(1,true,false),(2,true,false),(3,true,false),(4,true,false),(5,true,false),(6,true,false),(7,false,false),(8,false,false),(9,false,true),(10,true,true),(11,false,true)] (by kernel_rfl) ?_
 conv => cbv
 refine and_h h (fun g => (by subst hO; exact g)) (fun h => ?_)
 refine and_h h (fun g => (by subst hO; exact g)) (fun h => ?_)
 obtain ⟨c3,c4,c5,hr,h⟩ := z0k h
 refine z0o hO _ (by subst hO; exact hr) ?_
 clear hr
 conv => cbv
 refine z0c hO [.shut] (d_p101 fu O.len hN h) ?_
 intro os Q hos hQ
 conv => cbv
 refine ⟨(by (rw [hos]) <;> (subst hO; rfl)),?_⟩
 intro r bs hq
 rw [hQ] at hq
 clear hos hQ h
 obtain ⟨y6,y7,y8,_,⟨rfl,rfl⟩,h⟩ := hq
 conv => cbv
 refine ⟨z0e hO (Nat.le_of_ble_eq_true rfl) rfl,?_⟩
 refine ⟨z0e hO (Nat.le_of_ble_eq_true rfl) rfl,?_⟩
 refine z0v hO h (fun g => (by subst hO; exact g)) (fun h => ?_)
 conv => cbv
 refine and_h h (fun g => (by subst hO; exact g)) (fun h => ?_)
 refine z3r hO (by subst hO; exact List.cons_ne_nil _ _) ?_
 conv => cbv
 refine z0b hO ?_
 conv => cbv
 exact hLn1 n1 _ _ (Nat.lt_succ_self n1) ⟨(nilE ++ (List.take 1 [[(CV.v (.int .i64 y6)),(CV.v (.int .i64 y7)),(CV.sl 3 y8 none)]])),z0d .add .i64 z2 1,(.inr ⟨(by (conv => lhs; cbv) <;> (subst hO; rfl)),(by (conv => lhs; cbv) <;> (subst hO; rfl))⟩),h⟩
 conv => cbv
 rw [hQ]
 exact (.inl ⟨x0,x1,x2,nilE,nilE,_,⟨rfl,rfl,(by subst hO; rfl),(by subst hO; rfl)⟩,h⟩)
 obtain ⟨rfl,rfl⟩ := hs
 conv => cbv
 refine br_h hO h (by subst hO; rfl) (fun hc1 h => ?_) (fun hc1 h => ?_)
 conv => cbv
 refine z0b hO ?_
 conv => cbv
 refine z0i hO tiA [[],[],[],[],[]] [(0,true,false),(1,true,false),(2,true,false),(3,true,false),(4,true,false),(5,true,false),(6,true,false),(7,false,false),(8,false,false),(9,false,true),(10,true,true),(11,false,true)] (by kernel_rfl) ?_
 conv => cbv
 refine and_h h (fun g => (by subst hO; exact g)) (fun h => ?_)
 refine and_h h (fun g => (by subst hO; exact g)) (fun h => ?_)
 obtain ⟨c3,c4,c5,hr,h⟩ := z0k h
 refine z0o hO _ (by subst hO; exact hr) ?_
 clear hr
 conv => cbv
 refine z0c hO [.shut] (d_p101 fu O.len hN h) ?_
 intro os Q hos hQ
 conv => cbv
 refine ⟨(by (rw [hos]) <;> (subst hO; rfl)),?_⟩
 intro r bs hq
 rw [hQ] at hq
 clear hos hQ h
 obtain ⟨y6,y7,y8,_,⟨rfl,rfl⟩,h⟩ := hq
 conv => cbv
 refine ⟨z0e hO (Nat.le_of_ble_eq_true rfl) rfl,?_⟩
 refine ⟨z0e hO (Nat.le_of_ble_eq_true rfl) rfl,?_⟩
 refine z0v hO h (fun g => (by subst hO; exact g)) (fun h => ?_)
 conv => cbv
 refine ⟨(by subst hO; rfl),?_⟩
 refine and_h h (fun g => (by subst hO; exact g)) (fun h => ?_)
 refine z0b hO ?_
 conv => cbv
 exact hLn1 n1 _ _ (Nat.lt_succ_self n1) ⟨(z1 ++ (List.take 1 [[(CV.v (.int .i64 y6)),(CV.v (.int .i64 y7)),(CV.sl 3 y8 none)]])),z0d .add .i64 z2 1,(.inr ⟨(by (conv => lhs; cbv) <;> (subst hO; rfl)),(by (conv => lhs; cbv) <;> (subst hO; rfl))⟩),h⟩
 conv => cbv
 refine ⟨(by subst hO; exact Nat.le_refl _),?_⟩
 rw [hQ]
 exact (.inr ⟨x0,x1,x2,z1,nilE,_,⟨rfl,(by subst hO; rfl),(by subst hO; rfl)⟩,h⟩))
theorem d_p142 (fu : Nat) {K0 : Int → Prop} (L : EL → Nat) (hN : L = List.length) {x0 x1 : Int} (h : p142 False fu K0 x0 x1) : Den Try.prog G0 142 [.c (.v (.int .i64 x0)),.c (.v (.int .i64 x1))] (fun r bs => (∃ (y0 : Int) (o0 o1 : OV),(r = .c (.v (.int .i64 y0)) ∧ bs = [o0,o1]) ∧ K0 y0)) := by
 obtain ⟨O,hO⟩ : ∃ O,O = std 0 T G0 (Den Try.prog G0) := ⟨_,rfl⟩
 have hLO : L = O.len := by rw [hN,hO]; rfl
 subst hLO
 refine den_h hO tiA mixed tabOk (fn := Try.f142) (sh := true) (by kernel_rfl) rfl rfl rfl rfl ?_
 intro Q hQ
 unfold p142 at h
 conv => cbv
 refine z0l hO tiA [22] [] [] (fun tm m => ∃ (j1 : Bool),((tm = frame 0 23 [(22,.c (.v (.bool j1)))] ∧ m = ⟨[],1⟩)) ∧ p142_1 False fu K0 j1) (fun L hL_1 => ?_) ?_
 conv => cbv
 refine br_h hO h (by subst hO; rfl) (fun hc2 h => ?_) (fun hc2 h => ?_)
 conv => cbv
 refine br_t hO hc2 ?_
 conv => cbv
 refine br_t hO hc2 ?_
 conv => cbv
 refine br_t hO rfl ?_
 conv => cbv
 refine br_t hO rfl ?_
 conv => cbv
 refine br_t hO rfl ?_
 conv => cbv
 refine br_h hO h (by subst hO; rfl) (fun hc3 h => ?_) (fun hc3 h => ?_)
 conv => cbv
 refine br_t hO hc3 ?_
 conv => cbv
 refine br_t hO hc3 ?_
 conv => cbv
 refine br_t hO hc3 ?_
 conv => cbv
 refine br_t hO hc3 ?_
 conv => cbv
 exact hL_1 _ _ ⟨true,⟨(by (conv => lhs; cbv) <;> (subst hO; rfl)),(by (conv => lhs; cbv) <;> (subst hO; rfl))⟩,h⟩
 conv => cbv
 refine br_f hO hc3 ?_
 conv => cbv
 refine br_f hO hc3 ?_
 conv => cbv
 refine br_h hO h (by subst hO; rfl) (fun hc4 h => ?_) (fun hc4 h => ?_)
 conv => cbv
 refine br_t hO hc4 ?_
 conv => cbv
 refine br_f hO hc3 ?_
 conv => cbv
 refine br_t hO hc4 ?_
 conv => cbv
 refine br_f hO hc3 ?_
 conv => cbv
 exact hL_1 _ _ ⟨(z0a .eql x1 2),⟨(by (conv => lhs; cbv) <;> (subst hO; rfl)),(by (conv => lhs; cbv) <;> (subst hO; rfl))⟩,h⟩
 conv => cbv
 refine br_f hO hc4 ?_
 conv => cbv
 refine br_f hO hc3 ?_
 conv => cbv
 refine br_f hO hc4 ?_
 conv => cbv
 refine br_f hO hc3 ?_
 conv => cbv
 exact hL_1 _ _ ⟨false,⟨(by (conv => lhs; cbv) <;> (subst hO; rfl)),(by (conv => lhs; cbv) <;> (subst hO; rfl))⟩,h⟩
 conv => cbv
 refine br_f hO hc2 ?_
 conv => cbv
 refine br_f hO hc2 ?_
 conv => cbv
 refine br_h hO h (by subst hO; rfl) (fun hc5 h => ?_) (fun hc5 h => ?_)
 conv => cbv
 refine br_t hO hc5 ?_
 conv => cbv
 refine br_t hO hc5 ?_
 conv => cbv
 refine br_h hO h (by subst hO; rfl) (fun hc6 h => ?_) (fun hc6 h => ?_)
 conv => cbv
 refine br_t hO hc6 ?_
 conv => cbv
 refine br_t hO hc6 ?_
 conv => cbv
 refine br_t hO hc6 ?_
 conv => cbv
 refine br_t hO hc6 ?_
 conv => cbv
 exact hL_1 _ _ ⟨true,⟨(by (conv => lhs; cbv) <;> (subst hO; rfl)),(by (conv => lhs; cbv) <;> (subst hO; rfl))⟩,h⟩
 conv => cbv
 refine br_f hO hc6 ?_
 conv => cbv
 refine br_f hO hc6 ?_
 conv => cbv
 refine br_h hO h (by subst hO; rfl) (fun hc7 h => ?_) (fun hc7 h => ?_)
 conv => cbv
 refine br_t hO hc7 ?_
 conv => cbv
 refine br_f hO hc6 ?_
 conv => cbv
 refine br_t hO hc7 ?_
 conv => cbv
 refine br_f hO hc6 ?_
 conv => cbv
 exact hL_1 _ _ ⟨(z0a .eql x1 2),⟨(by (conv => lhs; cbv) <;> (subst hO; rfl)),(by (conv => lhs; cbv) <;> (subst hO; rfl))⟩,h⟩
 conv => cbv
 refine br_f hO hc7 ?_
 conv => cbv
 refine br_f hO hc6 ?_
 conv => cbv
 refine br_f hO hc7 ?_
 conv => cbv
 refine br_f hO hc6 ?_
 conv => cbv
 exact hL_1 _ _ ⟨false,⟨(by (conv => lhs; cbv) <;> (subst hO; rfl)),(by (conv => lhs; cbv) <;> (subst hO; rfl))⟩,h⟩
 conv => cbv
 refine br_f hO hc5 ?_
 conv => cbv
 refine br_f hO hc5 ?_
 conv => cbv
 refine br_f hO rfl ?_
 conv => cbv
 refine br_f hO rfl ?_
 conv => cbv
 refine br_f hO rfl ?_
 conv => cbv
 refine br_h hO h (by subst hO; rfl) (fun hc8 h => ?_) (fun hc8 h => ?_)
 conv => cbv
 refine br_t hO hc8 ?_
 conv => cbv
 refine br_f hO rfl ?_
 conv => cbv
 refine br_t hO hc8 ?_
 conv => cbv
 refine br_f hO rfl ?_
 conv => cbv
 exact hL_1 _ _ ⟨(z0a .eql x1 2),⟨(by (conv => lhs; cbv) <;> (subst hO; rfl)),(by (conv => lhs; cbv) <;> (subst hO; rfl))⟩,h⟩
 conv => cbv
 refine br_f hO hc8 ?_
 conv => cbv
 refine br_f hO rfl ?_
 conv => cbv
 refine br_f hO hc8 ?_
 conv => cbv
 refine br_f hO rfl ?_
 conv => cbv
 exact hL_1 _ _ ⟨false,⟨(by (conv => lhs; cbv) <;> (subst hO; rfl)),(by (conv => lhs; cbv) <;> (subst hO; rfl))⟩,h⟩
 rintro tm m ⟨j1,hs,h⟩
 unfold p142_1 at h
 obtain ⟨rfl,rfl⟩ := hs
 conv => cbv
 refine br_h hO h (by subst hO; rfl) (fun hc1 h => ?_) (fun hc1 h => ?_)
 conv => cbv
 rw [hQ]
 exact ⟨1,_,_,⟨(by subst hO; rfl),(by subst hO; rfl)⟩,h⟩
 conv => cbv
 refine z0b hO ?_
 conv => cbv
 rw [hQ]
 exact ⟨0,_,_,⟨(by subst hO; rfl),(by subst hO; rfl)⟩,h⟩
def D_p131 (fu : Nat) : Prop := ∀ {K0 : Int → Int → ByteArray → EL → EL → Prop} (L : EL → Nat) (_ : L = List.length) {x0 x1 : Int} {x2 : ByteArray} {x3 x4 : EL} {x5 x6 : Int} (_ : p131 False fu K0 x0 x1 x2 x3 x4 x5 x6),Den Try.prog G0 131 [.agg [.c (.v (.int .i64 x0)),.c (.v (.int .i64 x1)),.c (.v (.string x2)),.c (.sl 3 x3 none),.c (.sl 5 x4 none)],.c (.v (.int .i64 x5)),.c (.v (.int .i64 x6))] (fun r bs => (∃ (y0 y1 : Int) (y2 : ByteArray) (y3 y4 : EL) (o0 o1 o2 : OV),(r = .agg [.c (.v (.int .i64 y0)),.c (.v (.int .i64 y1)),.c (.v (.string y2)),.c (.sl 3 y3 none),.c (.sl 5 y4 none)] ∧ bs = [o0,o1,o2]) ∧ K0 y0 y1 y2 y3 y4))
theorem b_p131 (fu : Nat) (ih_p131 : D_p131 fu) {K0 : Int → Int → ByteArray → EL → EL → Prop} (L : EL → Nat) (hN : L = List.length) {x0 x1 : Int} {x2 : ByteArray} {x3 x4 : EL} {x5 x6 : Int} (h : p131_b False fu (p131 False fu) K0 x0 x1 x2 x3 x4 x5 x6) : Den Try.prog G0 131 [.agg [.c (.v (.int .i64 x0)),.c (.v (.int .i64 x1)),.c (.v (.string x2)),.c (.sl 3 x3 none),.c (.sl 5 x4 none)],.c (.v (.int .i64 x5)),.c (.v (.int .i64 x6))] (fun r bs => (∃ (y0 y1 : Int) (y2 : ByteArray) (y3 y4 : EL) (o0 o1 o2 : OV),(r = .agg [.c (.v (.int .i64 y0)),.c (.v (.int .i64 y1)),.c (.v (.string y2)),.c (.sl 3 y3 none),.c (.sl 5 y4 none)] ∧ bs = [o0,o1,o2]) ∧ K0 y0 y1 y2 y3 y4)) := by
 obtain ⟨O,hO⟩ : ∃ O,O = std 0 T G0 (Den Try.prog G0) := ⟨_,rfl⟩
 have hLO : L = O.len := by rw [hN,hO]; rfl
 subst hLO
 refine den_h hO tiA mixed tabOk (fn := Try.f131) (sh := true) (by kernel_rfl) rfl rfl rfl rfl ?_
 intro Q hQ
 unfold p131_b at h
 conv => cbv
 refine z0c hO [.shut] (d_p135 fu O.len hN h) ?_
 intro os Q hos hQ
 conv => cbv
 refine ⟨(by (rw [hos]) <;> (subst hO; rfl)),?_⟩
 intro r bs hq
 rw [hQ] at hq
 clear hos hQ h
 rcases hq with hq | hq
 obtain ⟨y1,y2,y3,y4,y5,_,⟨rfl,rfl,rfl,rfl⟩,h⟩ := hq
 conv => cbv
 refine z0l hO tiA [1,2,3,6,7,19] [4000,7000,8000] [] (fun tm m => ∃ (j6 : Bool),((tm = frame 0 51 [(1,.c (.v (.int .i64 x5))),(2,.c (.v (.int .i64 x6))),(3,.p 4000 0 0),(6,.p 7000 0 0),(7,.p 8000 0 0),(19,.c (.v (.bool j6)))] ∧ m = ⟨[(4000,.blk 0 [.c (.v (.int .i64 x0)),.c (.v (.int .i64 x1)),.c (.v (.string x2)),.c (.sl 3 x3 none),.c (.sl 5 x4 none)]),(7000,.blk 0 [.c (.v (.int .i64 0)),.c (.v (.int .i64 0)),.c (.v (.string ⟨#[]⟩)),.c (.sl 3 [] (some [])),.c (.sl 5 [] (some []))]),(8000,.blk 0 [.c (.v (.int .i64 y1)),.c (.v (.int .i64 y2)),.c (.v (.string y3)),.c (.sl 3 [] (some [])),.c (.sl 5 [] (some []))])],1⟩)) ∧ p131_3 False fu (p131 False fu) K0 x0 x1 x4 x5 x6 y1 y2 y3 nilE nilE j6) (fun L hL_3 => ?_) ?_
 conv => cbv
 refine br_h hO h (by subst hO; rfl) (fun hc3 h => ?_) (fun hc3 h => ?_)
 conv => cbv
 refine br_t hO hc3 ?_
 conv => cbv
 refine br_t hO hc3 ?_
 conv => cbv
 refine br_t hO hc3 ?_
 conv => cbv
 refine br_t hO hc3 ?_
 conv => cbv
 exact hL_3 _ _ ⟨(z0a .geq x1 x6),⟨(by (conv => lhs; cbv) <;> (subst hO; rfl)),(by (conv => lhs; cbv) <;> (subst hO; rfl))⟩,h⟩
 conv => cbv
 refine br_f hO hc3 ?_
 conv => cbv
 refine br_f hO hc3 ?_
 conv => cbv
 refine br_f hO hc3 ?_
 conv => cbv
 refine br_f hO hc3 ?_
 conv => cbv
 exact hL_3 _ _ ⟨false,⟨(by (conv => lhs; cbv) <;> (subst hO; rfl)),(by (conv => lhs; cbv) <;> (subst hO; rfl))⟩,h⟩
 rintro tm m ⟨j6,hs,h⟩
 unfold p131_3 at h
 obtain ⟨rfl,rfl⟩ := hs
 conv => cbv
 refine z0h hO tiA h (by subst hO; rfl) [1,2,3,6,7] [4000,7000,8000] [] (fun tm m => ∃ (j7 : Int),((tm = frame 0 51 [(1,.c (.v (.int .i64 x5))),(2,.c (.v (.int .i64 x6))),(3,.p 4000 0 0),(6,.p 7000 0 0),(7,.p 8000 0 0)] ∧ m = ⟨[(4000,.blk 0 [.c (.v (.int .i64 x0)),.c (.v (.int .i64 x1)),.c (.v (.string x2)),.c (.sl 3 x3 none),.c (.sl 5 x4 none)]),(7000,.blk 0 [.c (.v (.int .i64 0)),.c (.v (.int .i64 0)),.c (.v (.string ⟨#[]⟩)),.c (.sl 3 [] (some [])),.c (.sl 5 [] (some []))]),(8000,.blk 0 [.c (.v (.int .i64 y1)),.c (.v (.int .i64 j7)),.c (.v (.string y3)),.c (.sl 3 [] (some [])),.c (.sl 5 [] (some []))])],1⟩)) ∧ p131_2 False fu (p131 False fu) K0 x0 x4 x5 x6 y1 y3 nilE nilE j7) (fun hc2 h L hL_2 => ?_) (fun hc2 h L hL_2 => ?_) ?_
 conv => cbv
 exact hL_2 _ _ ⟨z0d .add .i64 x1 x5,⟨(by (conv => lhs; cbv) <;> (subst hO; rfl)),(by (conv => lhs; cbv) <;> (subst hO; rfl))⟩,h⟩
 conv => cbv
 exact hL_2 _ _ ⟨y2,⟨(by (conv => lhs; cbv) <;> (subst hO; rfl)),(by (conv => lhs; cbv) <;> (subst hO; rfl))⟩,h⟩
 rintro tm m ⟨j7,hs,h⟩
 unfold p131_2 at h
 obtain ⟨rfl,rfl⟩ := hs
 conv => cbv
 refine z0s hO tiA [1,2,3,6,7,8] [4000,7000,8000,49000] [] (fun (n : Nat) tm m => ∃ (z8 : EL) (z9 : Int),((z8 = [] ∧ tm = frame 0 51 [(1,.c (.v (.int .i64 x5))),(2,.c (.v (.int .i64 x6))),(3,.p 4000 0 0),(6,.p 7000 0 0),(7,.p 8000 0 0),(8,.c (.v (.int .i64 z9)))] ∧ m = ⟨[(4000,.blk 0 [.c (.v (.int .i64 x0)),.c (.v (.int .i64 x1)),.c (.v (.string x2)),.c (.sl 3 x3 none),.c (.sl 5 x4 none)]),(7000,.blk 0 [.c (.v (.int .i64 0)),.c (.v (.int .i64 0)),.c (.v (.string ⟨#[]⟩)),.c (.sl 3 [] (some [])),.c (.sl 5 [] (some []))]),(8000,.blk 0 [.c (.v (.int .i64 y1)),.c (.v (.int .i64 j7)),.c (.v (.string y3)),.c (.sl 3 [] (some [])),.c (.sl 5 [] (some []))])],1⟩) ∨ (tm = frame 0 51 [(1,.c (.v (.int .i64 x5))),(2,.c (.v (.int .i64 x6))),(3,.p 4000 0 0),(6,.p 7000 0 0),(7,.p 8000 0 0),(8,.c (.v (.int .i64 z9)))] ∧ m = ⟨[(4000,.blk 0 [.c (.v (.int .i64 x0)),.c (.v (.int .i64 x1)),.c (.v (.string x2)),.c (.sl 3 x3 none),.c (.sl 5 x4 none)]),(7000,.blk 0 [.c (.v (.int .i64 0)),.c (.v (.int .i64 0)),.c (.v (.string ⟨#[]⟩)),.c (.sl 3 [] (some [])),.c (.sl 5 [] (some []))]),(8000,.blk 0 [.c (.v (.int .i64 y1)),.c (.v (.int .i64 j7)),.c (.v (.string y3)),.c (.sl 3 [] (some [])),.t 49000 0 (O.len z8)]),(49000,.arr 0 5 z8 none false)],1⟩)) ∧ p131_1L False fu (p131 False fu) K0 x0 x4 x5 x6 y1 y3 nilE j7 n z8 z9) (fun n => n) fu ⟨nilE,0,(.inl ⟨rfl,(by (conv => lhs; cbv) <;> (subst hO; rfl)),(by (conv => lhs; cbv) <;> (subst hO; rfl))⟩),h⟩ ?_
 rintro n1 tm m L ⟨z8,z9,hs,h⟩ hLn1
 (cases n1 with
 | zero => rw [p131_1L] at h; exact h.elim
 | succ n1 =>
 rw [p131_1L] at h
 unfold p131_1 at h
 rcases hs with hs | hs
 obtain ⟨rfl,rfl,rfl⟩ := hs
 conv => cbv
 refine br_h hO h (by subst hO; rfl) (fun hc1 h => ?_) (fun hc1 h => ?_)
 conv => cbv
 refine z0b hO ?_
 conv => cbv
 refine z0i hO tiA [[],[],[],[],[],[]] [(0,true,false),(1,true,false),(2,true,false),(3,true,false),(4,true,false),(5,true,false),(6,true,false),(7,true,false),(8,true,false),(9,true,false),(10,true,false),(11,true,false),(12,false,false),(13,true,false),(14,false,false),(15,false,false),(16,false,true),(17,true,true),(18,false,true)] (by kernel_rfl) ?_
 conv => cbv
 refine and_h h (fun g => (by subst hO; exact g)) (fun h => ?_)
 refine and_h h (fun g => (by subst hO; exact g)) (fun h => ?_)
 obtain ⟨c10,c11,c12,c13,c14,hr,h⟩ := z0g h
 refine z0o hO _ (by subst hO; exact hr) ?_
 clear hr
 conv => cbv
 refine z0c hO [.shut,.shut] (d_p142 fu O.len hN h) ?_
 intro os Q hos hQ
 conv => cbv
 refine ⟨(by (rw [hos]) <;> (subst hO; rfl)),?_⟩
 intro r bs hq
 rw [hQ] at hq
 clear hos hQ h
 obtain ⟨y15,_,_,⟨rfl,rfl⟩,h⟩ := hq
 conv => cbv
 refine ⟨z0e hO (Nat.le_of_ble_eq_true rfl) rfl,?_⟩
 refine z0c hO [.shut,.shut,.shut] (ih_p131 O.len hN h) ?_
 intro os Q hos hQ
 conv => cbv
 refine ⟨(by (rw [hos]) <;> (subst hO; rfl)),?_⟩
 intro r bs hq
 rw [hQ] at hq
 clear hos hQ h
 obtain ⟨y16,y17,y18,y19,y20,_,_,_,⟨rfl,rfl⟩,h⟩ := hq
 conv => cbv
 refine ⟨z0e hO (Nat.le_of_ble_eq_true rfl) rfl,?_⟩
 refine ⟨z0e hO (Nat.le_of_ble_eq_true rfl) rfl,?_⟩
 refine z0v hO h (fun g => (by subst hO; exact g)) (fun h => ?_)
 conv => cbv
 refine and_h h (fun g => (by subst hO; exact g)) (fun h => ?_)
 refine z3r hO (by subst hO; exact List.cons_ne_nil _ _) ?_
 conv => cbv
 refine z0b hO ?_
 conv => cbv
 exact hLn1 n1 _ _ (Nat.lt_succ_self n1) ⟨(nilE ++ (List.take 1 [[(CV.v (.int .i64 y16)),(CV.v (.int .i64 y17)),(CV.v (.string y18)),(CV.sl 3 y19 none),(CV.sl 5 y20 none)]])),z0d .add .i64 z9 1,(.inr ⟨(by (conv => lhs; cbv) <;> (subst hO; rfl)),(by (conv => lhs; cbv) <;> (subst hO; rfl))⟩),h⟩
 conv => cbv
 rw [hQ]
 exact ⟨y1,j7,y3,nilE,nilE,_,_,_,⟨(by subst hO; rfl),(by subst hO; rfl)⟩,h⟩
 obtain ⟨rfl,rfl⟩ := hs
 conv => cbv
 refine br_h hO h (by subst hO; rfl) (fun hc1 h => ?_) (fun hc1 h => ?_)
 conv => cbv
 refine z0b hO ?_
 conv => cbv
 refine z0i hO tiA [[],[],[],[],[],[]] [(0,true,false),(1,true,false),(2,true,false),(3,true,false),(4,true,false),(5,true,false),(6,true,false),(7,true,false),(8,true,false),(9,true,false),(10,true,false),(11,true,false),(12,false,false),(13,true,false),(14,false,false),(15,false,false),(16,false,true),(17,true,true),(18,false,true)] (by kernel_rfl) ?_
 conv => cbv
 refine and_h h (fun g => (by subst hO; exact g)) (fun h => ?_)
 refine and_h h (fun g => (by subst hO; exact g)) (fun h => ?_)
 obtain ⟨c10,c11,c12,c13,c14,hr,h⟩ := z0g h
 refine z0o hO _ (by subst hO; exact hr) ?_
 clear hr
 conv => cbv
 refine z0c hO [.shut,.shut] (d_p142 fu O.len hN h) ?_
 intro os Q hos hQ
 conv => cbv
 refine ⟨(by (rw [hos]) <;> (subst hO; rfl)),?_⟩
 intro r bs hq
 rw [hQ] at hq
 clear hos hQ h
 obtain ⟨y15,_,_,⟨rfl,rfl⟩,h⟩ := hq
 conv => cbv
 refine ⟨z0e hO (Nat.le_of_ble_eq_true rfl) rfl,?_⟩
 refine z0c hO [.shut,.shut,.shut] (ih_p131 O.len hN h) ?_
 intro os Q hos hQ
 conv => cbv
 refine ⟨(by (rw [hos]) <;> (subst hO; rfl)),?_⟩
 intro r bs hq
 rw [hQ] at hq
 clear hos hQ h
 obtain ⟨y16,y17,y18,y19,y20,_,_,_,⟨rfl,rfl⟩,h⟩ := hq
 conv => cbv
 refine ⟨z0e hO (Nat.le_of_ble_eq_true rfl) rfl,?_⟩
 refine ⟨z0e hO (Nat.le_of_ble_eq_true rfl) rfl,?_⟩
 refine z0v hO h (fun g => (by subst hO; exact g)) (fun h => ?_)
 conv => cbv
 refine ⟨(by subst hO; rfl),?_⟩
 refine and_h h (fun g => (by subst hO; exact g)) (fun h => ?_)
 refine z0b hO ?_
 conv => cbv
 exact hLn1 n1 _ _ (Nat.lt_succ_self n1) ⟨(z8 ++ (List.take 1 [[(CV.v (.int .i64 y16)),(CV.v (.int .i64 y17)),(CV.v (.string y18)),(CV.sl 3 y19 none),(CV.sl 5 y20 none)]])),z0d .add .i64 z9 1,(.inr ⟨(by (conv => lhs; cbv) <;> (subst hO; rfl)),(by (conv => lhs; cbv) <;> (subst hO; rfl))⟩),h⟩
 conv => cbv
 refine z0m hO ?_
 conv => cbv
 rw [hQ]
 exact ⟨y1,j7,y3,nilE,z8,_,_,_,⟨(by subst hO; rfl),(by subst hO; rfl)⟩,h⟩)
 obtain ⟨y1,y2,y3,y4,y5,_,⟨rfl,rfl,rfl⟩,h⟩ := hq
 conv => cbv
 refine z0l hO tiA [1,2,3,6,7,19] [4000,7000,8000,11000] [] (fun tm m => ∃ (j6 : Bool),((tm = frame 0 51 [(1,.c (.v (.int .i64 x5))),(2,.c (.v (.int .i64 x6))),(3,.p 4000 0 0),(6,.p 7000 0 0),(7,.p 8000 0 0),(19,.c (.v (.bool j6)))] ∧ m = ⟨[(4000,.blk 0 [.c (.v (.int .i64 x0)),.c (.v (.int .i64 x1)),.c (.v (.string x2)),.c (.sl 3 x3 none),.c (.sl 5 x4 none)]),(7000,.blk 0 [.c (.v (.int .i64 0)),.c (.v (.int .i64 0)),.c (.v (.string ⟨#[]⟩)),.c (.sl 3 [] (some [])),.c (.sl 5 [] (some []))]),(8000,.blk 0 [.c (.v (.int .i64 y1)),.c (.v (.int .i64 y2)),.c (.v (.string y3)),.t 11000 0 (O.len y4),.c (.sl 5 [] (some []))]),(11000,.arr 0 3 y4 none false)],1⟩)) ∧ p131_3 False fu (p131 False fu) K0 x0 x1 x4 x5 x6 y1 y2 y3 y4 nilE j6) (fun L hL_3 => ?_) ?_
 conv => cbv
 refine br_h hO h (by subst hO; rfl) (fun hc3 h => ?_) (fun hc3 h => ?_)
 conv => cbv
 refine br_t hO hc3 ?_
 conv => cbv
 refine br_t hO hc3 ?_
 conv => cbv
 refine br_t hO hc3 ?_
 conv => cbv
 refine br_t hO hc3 ?_
 conv => cbv
 exact hL_3 _ _ ⟨(z0a .geq x1 x6),⟨(by (conv => lhs; cbv) <;> (subst hO; rfl)),(by (conv => lhs; cbv) <;> (subst hO; rfl))⟩,h⟩
 conv => cbv
 refine br_f hO hc3 ?_
 conv => cbv
 refine br_f hO hc3 ?_
 conv => cbv
 refine br_f hO hc3 ?_
 conv => cbv
 refine br_f hO hc3 ?_
 conv => cbv
 exact hL_3 _ _ ⟨false,⟨(by (conv => lhs; cbv) <;> (subst hO; rfl)),(by (conv => lhs; cbv) <;> (subst hO; rfl))⟩,h⟩
 rintro tm m ⟨j6,hs,h⟩
 unfold p131_3 at h
 obtain ⟨rfl,rfl⟩ := hs
 conv => cbv
 refine z0h hO tiA h (by subst hO; rfl) [1,2,3,6,7] [4000,7000,8000,11000] [] (fun tm m => ∃ (j7 : Int),((tm = frame 0 51 [(1,.c (.v (.int .i64 x5))),(2,.c (.v (.int .i64 x6))),(3,.p 4000 0 0),(6,.p 7000 0 0),(7,.p 8000 0 0)] ∧ m = ⟨[(4000,.blk 0 [.c (.v (.int .i64 x0)),.c (.v (.int .i64 x1)),.c (.v (.string x2)),.c (.sl 3 x3 none),.c (.sl 5 x4 none)]),(7000,.blk 0 [.c (.v (.int .i64 0)),.c (.v (.int .i64 0)),.c (.v (.string ⟨#[]⟩)),.c (.sl 3 [] (some [])),.c (.sl 5 [] (some []))]),(8000,.blk 0 [.c (.v (.int .i64 y1)),.c (.v (.int .i64 j7)),.c (.v (.string y3)),.t 11000 0 (O.len y4),.c (.sl 5 [] (some []))]),(11000,.arr 0 3 y4 none false)],1⟩)) ∧ p131_2 False fu (p131 False fu) K0 x0 x4 x5 x6 y1 y3 y4 nilE j7) (fun hc2 h L hL_2 => ?_) (fun hc2 h L hL_2 => ?_) ?_
 conv => cbv
 exact hL_2 _ _ ⟨z0d .add .i64 x1 x5,⟨(by (conv => lhs; cbv) <;> (subst hO; rfl)),(by (conv => lhs; cbv) <;> (subst hO; rfl))⟩,h⟩
 conv => cbv
 exact hL_2 _ _ ⟨y2,⟨(by (conv => lhs; cbv) <;> (subst hO; rfl)),(by (conv => lhs; cbv) <;> (subst hO; rfl))⟩,h⟩
 rintro tm m ⟨j7,hs,h⟩
 unfold p131_2 at h
 obtain ⟨rfl,rfl⟩ := hs
 conv => cbv
 refine z0s hO tiA [1,2,3,6,7,8] [4000,7000,8000,11000,49000] [] (fun (n : Nat) tm m => ∃ (z8 : EL) (z9 : Int),((z8 = [] ∧ tm = frame 0 51 [(1,.c (.v (.int .i64 x5))),(2,.c (.v (.int .i64 x6))),(3,.p 4000 0 0),(6,.p 7000 0 0),(7,.p 8000 0 0),(8,.c (.v (.int .i64 z9)))] ∧ m = ⟨[(4000,.blk 0 [.c (.v (.int .i64 x0)),.c (.v (.int .i64 x1)),.c (.v (.string x2)),.c (.sl 3 x3 none),.c (.sl 5 x4 none)]),(7000,.blk 0 [.c (.v (.int .i64 0)),.c (.v (.int .i64 0)),.c (.v (.string ⟨#[]⟩)),.c (.sl 3 [] (some [])),.c (.sl 5 [] (some []))]),(8000,.blk 0 [.c (.v (.int .i64 y1)),.c (.v (.int .i64 j7)),.c (.v (.string y3)),.t 11000 0 (O.len y4),.c (.sl 5 [] (some []))]),(11000,.arr 0 3 y4 none false)],1⟩) ∨ (tm = frame 0 51 [(1,.c (.v (.int .i64 x5))),(2,.c (.v (.int .i64 x6))),(3,.p 4000 0 0),(6,.p 7000 0 0),(7,.p 8000 0 0),(8,.c (.v (.int .i64 z9)))] ∧ m = ⟨[(4000,.blk 0 [.c (.v (.int .i64 x0)),.c (.v (.int .i64 x1)),.c (.v (.string x2)),.c (.sl 3 x3 none),.c (.sl 5 x4 none)]),(7000,.blk 0 [.c (.v (.int .i64 0)),.c (.v (.int .i64 0)),.c (.v (.string ⟨#[]⟩)),.c (.sl 3 [] (some [])),.c (.sl 5 [] (some []))]),(8000,.blk 0 [.c (.v (.int .i64 y1)),.c (.v (.int .i64 j7)),.c (.v (.string y3)),.t 11000 0 (O.len y4),.t 49000 0 (O.len z8)]),(11000,.arr 0 3 y4 none false),(49000,.arr 0 5 z8 none false)],1⟩)) ∧ p131_1L False fu (p131 False fu) K0 x0 x4 x5 x6 y1 y3 y4 j7 n z8 z9) (fun n => n) fu ⟨nilE,0,(.inl ⟨rfl,(by (conv => lhs; cbv) <;> (subst hO; rfl)),(by (conv => lhs; cbv) <;> (subst hO; rfl))⟩),h⟩ ?_
 rintro n1 tm m L ⟨z8,z9,hs,h⟩ hLn1
 (cases n1 with
 | zero => rw [p131_1L] at h; exact h.elim
 | succ n1 =>
 rw [p131_1L] at h
 unfold p131_1 at h
 rcases hs with hs | hs
 obtain ⟨rfl,rfl,rfl⟩ := hs
 conv => cbv
 refine br_h hO h (by subst hO; rfl) (fun hc1 h => ?_) (fun hc1 h => ?_)
 conv => cbv
 refine z0b hO ?_
 conv => cbv
 refine z0i hO tiA [[],[],[],[],[],[]] [(0,true,false),(1,true,false),(2,true,false),(3,true,false),(4,true,false),(5,true,false),(6,true,false),(7,true,false),(8,true,false),(9,true,false),(10,true,false),(11,true,false),(12,false,false),(13,true,false),(14,false,false),(15,false,false),(16,false,true),(17,true,true),(18,false,true)] (by kernel_rfl) ?_
 conv => cbv
 refine and_h h (fun g => (by subst hO; exact g)) (fun h => ?_)
 refine and_h h (fun g => (by subst hO; exact g)) (fun h => ?_)
 obtain ⟨c10,c11,c12,c13,c14,hr,h⟩ := z0g h
 refine z0o hO _ (by subst hO; exact hr) ?_
 clear hr
 conv => cbv
 refine z0c hO [.shut,.shut] (d_p142 fu O.len hN h) ?_
 intro os Q hos hQ
 conv => cbv
 refine ⟨(by (rw [hos]) <;> (subst hO; rfl)),?_⟩
 intro r bs hq
 rw [hQ] at hq
 clear hos hQ h
 obtain ⟨y15,_,_,⟨rfl,rfl⟩,h⟩ := hq
 conv => cbv
 refine ⟨z0e hO (Nat.le_of_ble_eq_true rfl) rfl,?_⟩
 refine z0c hO [.shut,.shut,.shut] (ih_p131 O.len hN h) ?_
 intro os Q hos hQ
 conv => cbv
 refine ⟨(by (rw [hos]) <;> (subst hO; rfl)),?_⟩
 intro r bs hq
 rw [hQ] at hq
 clear hos hQ h
 obtain ⟨y16,y17,y18,y19,y20,_,_,_,⟨rfl,rfl⟩,h⟩ := hq
 conv => cbv
 refine ⟨z0e hO (Nat.le_of_ble_eq_true rfl) rfl,?_⟩
 refine ⟨z0e hO (Nat.le_of_ble_eq_true rfl) rfl,?_⟩
 refine z0v hO h (fun g => (by subst hO; exact g)) (fun h => ?_)
 conv => cbv
 refine and_h h (fun g => (by subst hO; exact g)) (fun h => ?_)
 refine z3r hO (by subst hO; exact List.cons_ne_nil _ _) ?_
 conv => cbv
 refine z0b hO ?_
 conv => cbv
 exact hLn1 n1 _ _ (Nat.lt_succ_self n1) ⟨(nilE ++ (List.take 1 [[(CV.v (.int .i64 y16)),(CV.v (.int .i64 y17)),(CV.v (.string y18)),(CV.sl 3 y19 none),(CV.sl 5 y20 none)]])),z0d .add .i64 z9 1,(.inr ⟨(by (conv => lhs; cbv) <;> (subst hO; rfl)),(by (conv => lhs; cbv) <;> (subst hO; rfl))⟩),h⟩
 conv => cbv
 refine z0m hO ?_
 conv => cbv
 rw [hQ]
 exact ⟨y1,j7,y3,y4,nilE,_,_,_,⟨(by subst hO; rfl),(by subst hO; rfl)⟩,h⟩
 obtain ⟨rfl,rfl⟩ := hs
 conv => cbv
 refine br_h hO h (by subst hO; rfl) (fun hc1 h => ?_) (fun hc1 h => ?_)
 conv => cbv
 refine z0b hO ?_
 conv => cbv
 refine z0i hO tiA [[],[],[],[],[],[]] [(0,true,false),(1,true,false),(2,true,false),(3,true,false),(4,true,false),(5,true,false),(6,true,false),(7,true,false),(8,true,false),(9,true,false),(10,true,false),(11,true,false),(12,false,false),(13,true,false),(14,false,false),(15,false,false),(16,false,true),(17,true,true),(18,false,true)] (by kernel_rfl) ?_
 conv => cbv
 refine and_h h (fun g => (by subst hO; exact g)) (fun h => ?_)
 refine and_h h (fun g => (by subst hO; exact g)) (fun h => ?_)
 obtain ⟨c10,c11,c12,c13,c14,hr,h⟩ := z0g h
 refine z0o hO _ (by subst hO; exact hr) ?_
 clear hr
 conv => cbv
 refine z0c hO [.shut,.shut] (d_p142 fu O.len hN h) ?_
 intro os Q hos hQ
 conv => cbv
 refine ⟨(by (rw [hos]) <;> (subst hO; rfl)),?_⟩
 intro r bs hq
 rw [hQ] at hq
 clear hos hQ h
 obtain ⟨y15,_,_,⟨rfl,rfl⟩,h⟩ := hq
 conv => cbv
 refine ⟨z0e hO (Nat.le_of_ble_eq_true rfl) rfl,?_⟩
 refine z0c hO [.shut,.shut,.shut] (ih_p131 O.len hN h) ?_
 intro os Q hos hQ
 conv => cbv
 refine ⟨(by (rw [hos]) <;> (subst hO; rfl)),?_⟩
 intro r bs hq
 rw [hQ] at hq
 clear hos hQ h
 obtain ⟨y16,y17,y18,y19,y20,_,_,_,⟨rfl,rfl⟩,h⟩ := hq
 conv => cbv
 refine ⟨z0e hO (Nat.le_of_ble_eq_true rfl) rfl,?_⟩
 refine ⟨z0e hO (Nat.le_of_ble_eq_true rfl) rfl,?_⟩
 refine z0v hO h (fun g => (by subst hO; exact g)) (fun h => ?_)
 conv => cbv
 refine ⟨(by subst hO; rfl),?_⟩
 refine and_h h (fun g => (by subst hO; exact g)) (fun h => ?_)
 refine z0b hO ?_
 conv => cbv
 exact hLn1 n1 _ _ (Nat.lt_succ_self n1) ⟨(z8 ++ (List.take 1 [[(CV.v (.int .i64 y16)),(CV.v (.int .i64 y17)),(CV.v (.string y18)),(CV.sl 3 y19 none),(CV.sl 5 y20 none)]])),z0d .add .i64 z9 1,(.inr ⟨(by (conv => lhs; cbv) <;> (subst hO; rfl)),(by (conv => lhs; cbv) <;> (subst hO; rfl))⟩),h⟩
 conv => cbv
 refine z0m hO ?_
 conv => cbv
 refine z0m hO ?_
 conv => cbv
 rw [hQ]
 exact ⟨y1,j7,y3,y4,z8,_,_,_,⟨(by subst hO; rfl),(by subst hO; rfl)⟩,h⟩)
theorem dd_p131 (fu : Nat) : D_p131 fu := by
 induction fu with
 | zero => unfold D_p131; intros; rename_i h; rw [p131] at h; exact h.elim
 | succ n ih =>
  exact (by unfold D_p131; intro K0 L hN x0 x1 x2 x3 x4 x5 x6 h; exact b_p131 n ih L hN (by rw [p131] at h; exact h))
theorem d_p131 (fu : Nat) : D_p131 fu := dd_p131 fu
theorem d_p100 (fu : Nat) {K0 : Int → Int → ByteArray → EL → EL → Prop} (L : EL → Nat) (hN : L = List.length) {x0 x1 : Int} {x2 : ByteArray} {x3 x4 : EL} (h : p100 False fu K0 x0 x1 x2 x3 x4) : Den Try.prog G0 100 [.agg [.c (.v (.int .i64 x0)),.c (.v (.int .i64 x1)),.c (.v (.string x2)),.c (.sl 3 x3 none),.c (.sl 5 x4 none)]] (fun r bs => (∃ (y0 y1 : Int) (y2 : ByteArray) (y3 y4 : EL) (o0 : OV),(r = .agg [.c (.v (.int .i64 y0)),.c (.v (.int .i64 y1)),.c (.v (.string y2)),.c (.sl 3 y3 none),.c (.sl 5 y4 none)] ∧ bs = [o0]) ∧ K0 y0 y1 y2 y3 y4)) := by
 obtain ⟨O,hO⟩ : ∃ O,O = std 0 T G0 (Den Try.prog G0) := ⟨_,rfl⟩
 have hLO : L = O.len := by rw [hN,hO]; rfl
 subst hLO
 refine den_h hO tiA mixed tabOk (fn := Try.f100) (sh := true) (by kernel_rfl) rfl rfl rfl rfl ?_
 intro Q hQ
 unfold p100 at h
 conv => cbv
 refine z0c hO [.shut,.shut,.shut] (d_p131 fu O.len hN h) ?_
 intro os Q hos hQ
 conv => cbv
 refine ⟨(by (rw [hos]) <;> (subst hO; rfl)),?_⟩
 intro r bs hq
 rw [hQ] at hq
 clear hos hQ h
 obtain ⟨y1,y2,y3,y4,y5,_,_,_,⟨rfl,rfl⟩,h⟩ := hq
 conv => cbv
 rw [hQ]
 exact ⟨y1,y2,y3,y4,y5,_,⟨(by subst hO; rfl),(by subst hO; rfl)⟩,h⟩
theorem d_p103 (fu : Nat) {K0 : Int → Int → ByteArray → EL → EL → Prop} (L : EL → Nat) (hN : L = List.length) {x0 x1 : Int} {x2 : ByteArray} {x3 x4 : EL} {x5 x6 : Int} {x7 : ByteArray} {x8 x9 : EL} (h : p103 False fu K0 x0 x1 x2 x3 x4 x5 x6 x7 x8 x9) : Den Try.prog G0 103 [.agg [.c (.v (.int .i64 x0)),.c (.v (.int .i64 x1)),.c (.v (.string x2)),.c (.sl 3 x3 none),.c (.sl 5 x4 none)],.agg [.c (.v (.int .i64 x5)),.c (.v (.int .i64 x6)),.c (.v (.string x7)),.c (.sl 3 x8 none),.c (.sl 5 x9 none)]] (fun r bs => (∃ (y0 y1 : Int) (y2 : ByteArray) (y3 y4 : EL) (o0 o1 : OV),(r = .agg [.c (.v (.int .i64 y0)),.c (.v (.int .i64 y1)),.c (.v (.string y2)),.c (.sl 3 y3 none),.c (.sl 5 y4 none)] ∧ bs = [o0,o1]) ∧ K0 y0 y1 y2 y3 y4)) := by
 obtain ⟨O,hO⟩ : ∃ O,O = std 0 T G0 (Den Try.prog G0) := ⟨_,rfl⟩
 have hLO : L = O.len := by rw [hN,hO]; rfl
 subst hLO
 refine den_h hO tiA mixed tabOk (fn := Try.f103) (sh := true) (by kernel_rfl) rfl rfl rfl rfl ?_
 intro Q hQ
 unfold p103 at h
 conv => cbv
 refine z0i hO tiA [[],[],[],[]] [(0,true,false),(2,true,false),(1,false,false),(3,false,true),(4,true,true),(5,false,true)] (by kernel_rfl) ?_
 conv => cbv
 refine z0c hO [.shut] (d_p100 fu O.len hN h) ?_
 intro os Q hos hQ
 conv => cbv
 refine ⟨(by (rw [hos]) <;> (subst hO; rfl)),?_⟩
 intro r bs hq
 rw [hQ] at hq
 clear hos hQ h
 obtain ⟨y1,y2,y3,y4,y5,_,⟨rfl,rfl⟩,h⟩ := hq
 conv => cbv
 refine ⟨z0e hO (Nat.le_of_ble_eq_true rfl) rfl,?_⟩
 refine z0b hO ?_
 conv => cbv
 refine z0v hO h (fun g => (by subst hO; exact g)) (fun h => ?_)
 conv => cbv
 rw [hQ]
 exact ⟨4,0,⟨#[]⟩,nilE,List.take 2 [[(CV.v (.int .i64 y1)),(CV.v (.int .i64 y2)),(CV.v (.string y3)),(CV.sl 3 y4 none),(CV.sl 5 y5 none)],[(CV.v (.int .i64 x5)),(CV.v (.int .i64 x6)),(CV.v (.string x7)),(CV.sl 3 x8 none),(CV.sl 5 x9 none)]],_,_,⟨(by subst hO; rfl),(by subst hO; rfl)⟩,h⟩
theorem d_p68 (fu : Nat) {K0 : Int → Int → ByteArray → EL → EL → Prop} (L : EL → Nat) (hN : L = List.length) {x0 x1 : Int} {x2 : ByteArray} {x3 x4 : EL} {x5 x6 : Int} {x7 : ByteArray} {x8 x9 : EL} (h : p68 False fu K0 x0 x1 x2 x3 x4 x5 x6 x7 x8 x9) : Den Try.prog G0 68 [.agg [.c (.v (.int .i64 x0)),.c (.v (.int .i64 x1)),.c (.v (.string x2)),.c (.sl 3 x3 none),.c (.sl 5 x4 none)],.agg [.c (.v (.int .i64 x5)),.c (.v (.int .i64 x6)),.c (.v (.string x7)),.c (.sl 3 x8 none),.c (.sl 5 x9 none)]] (fun r bs => (∃ (y0 y1 : Int) (y2 : ByteArray) (y3 y4 : EL) (o0 o1 : OV),(r = .agg [.c (.v (.int .i64 y0)),.c (.v (.int .i64 y1)),.c (.v (.string y2)),.c (.sl 3 y3 none),.c (.sl 5 y4 none)] ∧ bs = [o0,o1]) ∧ K0 y0 y1 y2 y3 y4)) := by
 obtain ⟨O,hO⟩ : ∃ O,O = std 0 T G0 (Den Try.prog G0) := ⟨_,rfl⟩
 have hLO : L = O.len := by rw [hN,hO]; rfl
 subst hLO
 refine den_h hO tiA mixed tabOk (fn := Try.f68) (sh := true) (by kernel_rfl) rfl rfl rfl rfl ?_
 intro Q hQ
 unfold p68 at h
 conv => cbv
 refine z0i hO tiA [[],[],[],[]] [(0,true,false),(1,true,false),(2,false,false),(3,false,true),(4,true,true),(5,false,true)] (by kernel_rfl) ?_
 conv => cbv
 refine z0c hO [.shut] (d_p100 fu O.len hN h) ?_
 intro os Q hos hQ
 conv => cbv
 refine ⟨(by (rw [hos]) <;> (subst hO; rfl)),?_⟩
 intro r bs hq
 rw [hQ] at hq
 clear hos hQ h
 obtain ⟨y1,y2,y3,y4,y5,_,⟨rfl,rfl⟩,h⟩ := hq
 conv => cbv
 refine ⟨z0e hO (Nat.le_of_ble_eq_true rfl) rfl,?_⟩
 refine z0b hO ?_
 conv => cbv
 refine z0v hO h (fun g => (by subst hO; exact g)) (fun h => ?_)
 conv => cbv
 rw [hQ]
 exact ⟨3,0,⟨#[]⟩,nilE,List.take 2 [[(CV.v (.int .i64 x0)),(CV.v (.int .i64 x1)),(CV.v (.string x2)),(CV.sl 3 x3 none),(CV.sl 5 x4 none)],[(CV.v (.int .i64 y1)),(CV.v (.int .i64 y2)),(CV.v (.string y3)),(CV.sl 3 y4 none),(CV.sl 5 y5 none)]],_,_,⟨(by subst hO; rfl),(by subst hO; rfl)⟩,h⟩
theorem d_p133 (fu : Nat) {K0 : Int → Int → ByteArray → EL → EL → Prop} (L : EL → Nat) (hN : L = List.length) {x0 x1 : Int} {x2 : ByteArray} {x3 x4 x5 : EL} (h : p133 False fu K0 x0 x1 x2 x3 x4 x5) : Den Try.prog G0 133 [.agg [.c (.v (.int .i64 x0)),.c (.v (.int .i64 x1)),.c (.v (.string x2)),.c (.sl 3 x3 none),.c (.sl 5 x4 none)],.c (.sl 5 x5 none)] (fun r bs => (∃ (y0 y1 : Int) (y2 : ByteArray) (y3 y4 : EL) (o0 o1 : OV),(r = .agg [.c (.v (.int .i64 y0)),.c (.v (.int .i64 y1)),.c (.v (.string y2)),.c (.sl 3 y3 none),.c (.sl 5 y4 none)] ∧ bs = [o0,o1]) ∧ K0 y0 y1 y2 y3 y4)) := by
 obtain ⟨O,hO⟩ : ∃ O,O = std 0 T G0 (Den Try.prog G0) := ⟨_,rfl⟩
 have hLO : L = O.len := by rw [hN,hO]; rfl
 subst hLO
 refine den_h hO tiA mixed tabOk (fn := Try.f133) (sh := true) (by kernel_rfl) rfl rfl rfl rfl ?_
 intro Q hQ
 unfold p133 at h
 conv => cbv
 refine z0c hO [.shut] (d_p100 fu O.len hN h) ?_
 intro os Q hos hQ
 conv => cbv
 refine ⟨(by (rw [hos]) <;> (subst hO; rfl)),?_⟩
 intro r bs hq
 rw [hQ] at hq
 clear hos hQ h
 obtain ⟨y1,y2,y3,y4,y5,_,⟨rfl,rfl⟩,h⟩ := hq
 conv => cbv
 refine z0s hO tiA [1,4,5,6] [5000,6000] [] (fun (n : Nat) tm m => ∃ (z6 : Int) (z7 : Int) (z8 : ByteArray) (z9 : EL) (z10 : EL) (z11 : Int),((tm = frame 0 22 [(1,.c (.sl 5 x5 none)),(4,.p 5000 0 0),(5,.p 6000 0 0),(6,.c (.v (.int .i64 z11)))] ∧ m = ⟨[(5000,.blk 0 [.c (.v (.int .i64 0)),.c (.v (.int .i64 0)),.c (.v (.string ⟨#[]⟩)),.c (.sl 3 [] (some [])),.c (.sl 5 [] (some []))]),(6000,.blk 0 [.c (.v (.int .i64 z6)),.c (.v (.int .i64 z7)),.c (.v (.string z8)),.c (.sl 3 z9 none),.c (.sl 5 z10 none)])],1⟩)) ∧ p133_1L False fu K0 x5 n z6 z7 z8 z9 z10 z11) (fun n => n) fu ⟨y1,y2,y3,y4,y5,0,⟨(by (conv => lhs; cbv) <;> (subst hO; rfl)),(by (conv => lhs; cbv) <;> (subst hO; rfl))⟩,h⟩ ?_
 rintro n1 tm m L ⟨z6,z7,z8,z9,z10,z11,hs,h⟩ hLn1
 (cases n1 with
 | zero => rw [p133_1L] at h; exact h.elim
 | succ n1 =>
 rw [p133_1L] at h
 unfold p133_1 at h
 obtain ⟨rfl,rfl⟩ := hs
 conv => cbv
 refine br_h hO h (by subst hO; rfl) (fun hc1 h => ?_) (fun hc1 h => ?_)
 conv => cbv
 refine z0b hO ?_
 conv => cbv
 refine z0i hO tiA [[],[],[]] [(0,true,false),(1,true,false),(2,true,false),(3,true,false),(4,true,false),(5,false,true),(6,false,true)] (by kernel_rfl) ?_
 conv => cbv
 refine and_h h (fun g => (by subst hO; exact g)) (fun h => ?_)
 refine and_h h (fun g => (by subst hO; exact g)) (fun h => ?_)
 obtain ⟨c12,c13,c14,c15,c16,hr,h⟩ := z0g h
 refine z0o hO _ (by subst hO; exact hr) ?_
 clear hr
 conv => cbv
 refine z0c hO [.shut,.shut] (d_p68 fu O.len hN h) ?_
 intro os Q hos hQ
 conv => cbv
 refine ⟨(by (rw [hos]) <;> (subst hO; rfl)),?_⟩
 intro r bs hq
 rw [hQ] at hq
 clear hos hQ h
 obtain ⟨y17,y18,y19,y20,y21,_,_,⟨rfl,rfl⟩,h⟩ := hq
 conv => cbv
 refine z0b hO ?_
 conv => cbv
 exact hLn1 n1 _ _ (Nat.lt_succ_self n1) ⟨y17,y18,y19,y20,y21,z0d .add .i64 z11 1,⟨(by (conv => lhs; cbv) <;> (subst hO; rfl)),(by (conv => lhs; cbv) <;> (subst hO; rfl))⟩,h⟩
 conv => cbv
 rw [hQ]
 exact ⟨z6,z7,z8,z9,z10,_,_,⟨(by subst hO; rfl),(by subst hO; rfl)⟩,h⟩)
theorem d_p102 (fu : Nat) {K0 : Int → Int → ByteArray → EL → EL → Prop} (L : EL → Nat) (hN : L = List.length) {x0 : ByteArray} {x1 : EL} (h : p102 False fu K0 x0 x1) : Den Try.prog G0 102 [.c (.v (.string x0)),.c (.sl 5 x1 none)] (fun r bs => (∃ (y0 y1 : Int) (y2 : ByteArray) (y3 y4 : EL) (o0 o1 : OV),(r = .agg [.c (.v (.int .i64 y0)),.c (.v (.int .i64 y1)),.c (.v (.string y2)),.c (.sl 3 y3 none),.c (.sl 5 y4 none)] ∧ bs = [o0,o1]) ∧ K0 y0 y1 y2 y3 y4)) := by
 obtain ⟨O,hO⟩ : ∃ O,O = std 0 T G0 (Den Try.prog G0) := ⟨_,rfl⟩
 have hLO : L = O.len := by rw [hN,hO]; rfl
 subst hLO
 refine den_h hO tiA mixed tabOk (fn := Try.f102) (sh := true) (by kernel_rfl) rfl rfl rfl rfl ?_
 intro Q hQ
 unfold p102 at h
 conv => cbv
 refine z0c hO [.shut] (d_p104 fu O.len hN h) ?_
 intro os Q hos hQ
 conv => cbv
 refine ⟨(by (rw [hos]) <;> (subst hO; rfl)),?_⟩
 intro r bs hq
 rw [hQ] at hq
 clear hos hQ h
 obtain ⟨y1,y2,y3,y4,y5,_,⟨rfl,rfl⟩,h⟩ := hq
 conv => cbv
 refine z0c hO [.shut,.shut] (d_p133 fu O.len hN h) ?_
 intro os Q hos hQ
 conv => cbv
 refine ⟨(by (rw [hos]) <;> (subst hO; rfl)),?_⟩
 intro r bs hq
 rw [hQ] at hq
 clear hos hQ h
 obtain ⟨y6,y7,y8,y9,y10,_,_,⟨rfl,rfl⟩,h⟩ := hq
 conv => cbv
 rw [hQ]
 exact ⟨y6,y7,y8,y9,y10,_,_,⟨(by subst hO; rfl),(by subst hO; rfl)⟩,h⟩
theorem d_p51 (fu : Nat) {K0 : Int → Int → ByteArray → EL → EL → Prop} (L : EL → Nat) (hN : L = List.length) {x0 : Int} (h : p51 False fu K0 x0) : Den Try.prog G0 51 [.c (.v (.int .i64 x0))] (fun r bs => (∃ (y0 y1 : Int) (y2 : ByteArray) (y3 y4 : EL) (o0 : OV),(r = .agg [.c (.v (.int .i64 y0)),.c (.v (.int .i64 y1)),.c (.v (.string y2)),.c (.sl 3 y3 none),.c (.sl 5 y4 none)] ∧ bs = [o0]) ∧ K0 y0 y1 y2 y3 y4)) := by
 obtain ⟨O,hO⟩ : ∃ O,O = std 0 T G0 (Den Try.prog G0) := ⟨_,rfl⟩
 have hLO : L = O.len := by rw [hN,hO]; rfl
 subst hLO
 refine den_h hO tiA mixed tabOk (fn := Try.f51) (sh := true) (by kernel_rfl) rfl rfl rfl rfl ?_
 intro Q hQ
 unfold p51 at h
 conv => cbv
 rw [hQ]
 exact ⟨0,x0,⟨#[]⟩,nilE,nilE,_,⟨(by subst hO; rfl),(by subst hO; rfl)⟩,h⟩
end Go.Proofs.Ythncmjlcmlmnmaa
