/- The Go functions are followed by those without memory. Printed by gen.py. Conditions: none. -/
import Derived.Test.YthncmjlcmlmnmaaRT5
import Derived.Test.YthncmjlcmlmnmaaRT9
import Derived.Test.YthncmjlcmlmnmaaRT12
import Derived.Test.YthncmjlcmlmnmaaRT15
import Derived.Test.YthncmjlcmlmnmaaRT14
import Derived.Test.YthncmjlcmlmnmaaRT10
import Derived.ChangeSlices
import Derived.Test.YthncmjlcmlmnmaaProg
import Derived.ProofKit
namespace Go.Proofs.Ythncmjlcmlmnmaa
open Go V
set_option maxRecDepth 100000
set_option maxHeartbeats 4000000
def D_p58 (fu : Nat) : Prop := ∀ {K0 : Int → Int → ByteArray → EL → EL → EL → Int → Prop} (L : EL → Nat) (_ : L = List.length) {x0 : EL} {x1 x2 x3 : Int} {x4 : ByteArray} {x5 x6 : EL} (_ : p58 False fu K0 x0 x1 x2 x3 x4 x5 x6),Den Try.prog G0 58 [.ptr [.c (.sl 1 x0 none),.c (.v (.int .i64 x1))],.agg [.c (.v (.int .i64 x2)),.c (.v (.int .i64 x3)),.c (.v (.string x4)),.c (.sl 3 x5 none),.c (.sl 5 x6 none)]] (fun r bs => (∃ (y0 y1 : Int) (y2 : ByteArray) (y3 y4 y5 : EL) (y6 : Int) (o1 : OV),(r = .agg [.c (.v (.int .i64 y0)),.c (.v (.int .i64 y1)),.c (.v (.string y2)),.c (.sl 3 y3 none),.c (.sl 5 y4 none)] ∧ bs = [.ptr [.c (.sl 1 y5 none),.c (.v (.int .i64 y6))],o1]) ∧ K0 y0 y1 y2 y3 y4 y5 y6))
theorem b_p58 (fu : Nat) (ih_p58 : D_p58 fu) {K0 : Int → Int → ByteArray → EL → EL → EL → Int → Prop} (L : EL → Nat) (hN : L = List.length) {x0 : EL} {x1 x2 x3 : Int} {x4 : ByteArray} {x5 x6 : EL} (h : p58_b False fu (p58 False fu) K0 x0 x1 x2 x3 x4 x5 x6) : Den Try.prog G0 58 [.ptr [.c (.sl 1 x0 none),.c (.v (.int .i64 x1))],.agg [.c (.v (.int .i64 x2)),.c (.v (.int .i64 x3)),.c (.v (.string x4)),.c (.sl 3 x5 none),.c (.sl 5 x6 none)]] (fun r bs => (∃ (y0 y1 : Int) (y2 : ByteArray) (y3 y4 y5 : EL) (y6 : Int) (o1 : OV),(r = .agg [.c (.v (.int .i64 y0)),.c (.v (.int .i64 y1)),.c (.v (.string y2)),.c (.sl 3 y3 none),.c (.sl 5 y4 none)] ∧ bs = [.ptr [.c (.sl 1 y5 none),.c (.v (.int .i64 y6))],o1]) ∧ K0 y0 y1 y2 y3 y4 y5 y6)) := by
 obtain ⟨O,hO⟩ : ∃ O,O = std 1 T G0 (Den Try.prog G0) := ⟨_,rfl⟩
 have hLO : L = O.len := by rw [hN,hO]; rfl
 subst hLO
 refine den_h hO tiA mixed tabOk (fn := Try.f58) (sh := true) (by kernel_rfl) rfl rfl rfl rfl ?_
 intro Q hQ
 unfold p58_b at h
 conv => cbv
 refine z0l hO tiA [0,3,4,15] [0,4000,5000] [] (fun tm m => ∃ (j1 : EL) (j2 : Int) (j3 : Bool),((tm = frame 0 67 [(0,.p 0 0 0),(3,.p 4000 1 0),(4,.p 5000 1 0),(15,.c (.v (.bool j3)))] ∧ m = ⟨[(0,.blk 0 [.c (.sl 1 j1 none),.c (.v (.int .i64 j2))]),(4000,.blk 1 [.c (.v (.int .i64 x2)),.c (.v (.int .i64 x3)),.c (.v (.string x4)),.c (.sl 3 x5 none),.c (.sl 5 x6 none)]),(5000,.blk 1 [.c (.v (.int .i64 0)),.c (.v (.int .i64 0)),.c (.v (.string ⟨#[]⟩)),.c (.sl 3 [] (some [])),.c (.sl 5 [] (some []))])],2⟩)) ∧ p58_1 False fu (p58 False fu) K0 x2 x3 x4 x5 x6 j1 j2 j3) (fun L hL_1 => ?_) ?_
 conv => cbv
 refine br_h hO h (by subst hO; rfl) (fun hc7 h => ?_) (fun hc7 h => ?_)
 conv => cbv
 refine br_t hO hc7 ?_
 conv => cbv
 refine z0c hO [.ref 2,.shut] (d_p52 fu O.len hN h) ?_
 intro os Q hos hQ
 conv => cbv
 refine ⟨(by (rw [hos]) <;> (subst hO; rfl)),?_⟩
 intro r bs hq
 rw [hQ] at hq
 clear hos hQ h
 obtain ⟨y79,y80,y81,_,⟨rfl,rfl⟩,h⟩ := hq
 conv => cbv
 refine br_t hO hc7 ?_
 conv => cbv
 refine br_t hO hc7 ?_
 conv => cbv
 exact hL_1 _ _ ⟨y80,y81,(z0a .gtr y79 0),⟨(by (conv => lhs; cbv) <;> (subst hO; rfl)),(by (conv => lhs; cbv) <;> (subst hO; rfl))⟩,h⟩
 conv => cbv
 refine br_f hO hc7 ?_
 conv => cbv
 refine br_f hO hc7 ?_
 conv => cbv
 refine br_f hO hc7 ?_
 conv => cbv
 exact hL_1 _ _ ⟨x0,x1,false,⟨(by (conv => lhs; cbv) <;> (subst hO; rfl)),(by (conv => lhs; cbv) <;> (subst hO; rfl))⟩,h⟩
 rintro tm m ⟨j1,j2,j3,hs,h⟩
 unfold p58_1 at h
 obtain ⟨rfl,rfl⟩ := hs
 conv => cbv
 refine br_h hO h (by subst hO; rfl) (fun hc1 h => ?_) (fun hc1 h => ?_)
 conv => cbv
 refine z0c hO [.ref 2,.shut] (d_p52 fu O.len hN h) ?_
 intro os Q hos hQ
 conv => cbv
 refine ⟨(by (rw [hos]) <;> (subst hO; rfl)),?_⟩
 intro r bs hq
 rw [hQ] at hq
 clear hos hQ h
 obtain ⟨y4,y5,y6,_,⟨rfl,rfl⟩,h⟩ := hq
 conv => cbv
 refine z0c hO [.shut] (d_p100b fu O.len hN h) ?_
 intro os Q hos hQ
 conv => cbv
 refine ⟨(by (rw [hos]) <;> (subst hO; rfl)),?_⟩
 intro r bs hq
 rw [hQ] at hq
 clear hos hQ h
 rcases hq with hq | hq | hq | hq
 obtain ⟨y7,y8,y9,y10,y11,_,⟨rfl,rfl,rfl,rfl⟩,h⟩ := hq
 conv => cbv
 refine z0i hO tiA [[0],[],[]] [(0,true,false),(1,true,false),(2,true,false),(3,true,false),(4,true,false),(5,true,false),(6,true,false),(7,true,false),(8,true,false),(9,false,false),(10,true,false),(11,false,true)] (by kernel_rfl) ?_
 conv => cbv
 refine and_h h (fun g => (by subst hO; exact g)) (fun h => ?_)
 refine and_h h (fun g => (by subst hO; exact g)) (fun h => ?_)
 obtain ⟨c12,c13,c14,c15,c16,hr,h⟩ := z0g h
 refine z0o hO _ (by subst hO; exact hr) ?_
 clear hr
 conv => cbv
 refine z0c hO [.ref 2,.shut] (ih_p58 O.len hN h) ?_
 intro os Q hos hQ
 conv => cbv
 refine ⟨(by (rw [hos]) <;> (subst hO; rfl)),?_⟩
 intro r bs hq
 rw [hQ] at hq
 clear hos hQ h
 obtain ⟨y17,y18,y19,y20,y21,y22,y23,_,⟨rfl,rfl⟩,h⟩ := hq
 conv => cbv
 refine ⟨z0e hO (Nat.le_of_ble_eq_true rfl) rfl,?_⟩
 first | (obtain ⟨hd1,h⟩ := z0u h; obtain ⟨hd2,h⟩ := z0u h; exact absurd (Int.lt_of_le_of_lt hd1 hd2) (Int.lt_irrefl 0)) | (obtain ⟨_,h⟩ := z0u h; obtain ⟨hd1,h⟩ := z0u h; obtain ⟨hd2,h⟩ := z0u h; exact absurd (Int.lt_of_le_of_lt hd1 hd2) (Int.lt_irrefl 0))
 obtain ⟨y7,y8,y9,y10,y11,_,⟨rfl,rfl,rfl⟩,h⟩ := hq
 conv => cbv
 refine z0i hO tiA [[0],[],[]] [(0,true,false),(1,true,false),(2,true,false),(3,true,false),(4,true,false),(5,true,false),(6,true,false),(7,true,false),(8,true,false),(9,false,false),(10,true,false),(11,false,true)] (by kernel_rfl) ?_
 conv => cbv
 refine and_h h (fun g => (by subst hO; exact g)) (fun h => ?_)
 refine and_h h (fun g => (by subst hO; exact g)) (fun h => ?_)
 obtain ⟨c12,c13,c14,c15,c16,hr,h⟩ := z0g h
 refine z0o hO _ (by subst hO; exact hr) ?_
 clear hr
 conv => cbv
 refine z0c hO [.ref 2,.shut] (ih_p58 O.len hN h) ?_
 intro os Q hos hQ
 conv => cbv
 refine ⟨(by (rw [hos]) <;> (subst hO; rfl)),?_⟩
 intro r bs hq
 rw [hQ] at hq
 clear hos hQ h
 obtain ⟨y17,y18,y19,y20,y21,y22,y23,_,⟨rfl,rfl⟩,h⟩ := hq
 conv => cbv
 refine ⟨z0e hO (Nat.le_of_ble_eq_true rfl) rfl,?_⟩
 refine ⟨(by subst hO; exact Nat.le_refl _),?_⟩
 refine and_h h (fun g => (by subst hO; exact g)) (fun h => ?_)
 refine and_h h (fun g => (by subst hO; exact g)) (fun h => ?_)
 refine and_h h (fun g => (by subst hO; exact g)) (fun h => ?_)
 refine and_h h (fun g => (by subst hO; exact g)) (fun h => ?_)
 refine z0b hO ?_
 conv => cbv
 refine z0v hO h (fun g => (by subst hO; exact g)) (fun h => ?_)
 conv => cbv
 rw [hQ]
 exact ⟨y7,y8,y9,nilE,List.take y11.length (List.set y11 ((y4 : Int).toNat) (putAt (List.getD y11 ((y4 : Int).toNat) []) 0 [(CV.v (.int .i64 y17)),(CV.v (.int .i64 y18)),(CV.v (.string y19)),(CV.sl 3 y20 none),(CV.sl 5 y21 none)])),y22,y23,_,⟨(by subst hO; rfl),(by subst hO; rfl)⟩,h⟩
 obtain ⟨y7,y8,y9,y10,y11,_,⟨rfl,rfl,rfl⟩,h⟩ := hq
 conv => cbv
 refine z0i hO tiA [[0],[],[]] [(0,true,false),(1,true,false),(2,true,false),(3,true,false),(4,true,false),(5,true,false),(6,true,false),(7,true,false),(8,true,false),(9,false,false),(10,true,false),(11,false,true)] (by kernel_rfl) ?_
 conv => cbv
 refine and_h h (fun g => (by subst hO; exact g)) (fun h => ?_)
 refine and_h h (fun g => (by subst hO; exact g)) (fun h => ?_)
 obtain ⟨c12,c13,c14,c15,c16,hr,h⟩ := z0g h
 refine z0o hO _ (by subst hO; exact hr) ?_
 clear hr
 conv => cbv
 refine z0c hO [.ref 2,.shut] (ih_p58 O.len hN h) ?_
 intro os Q hos hQ
 conv => cbv
 refine ⟨(by (rw [hos]) <;> (subst hO; rfl)),?_⟩
 intro r bs hq
 rw [hQ] at hq
 clear hos hQ h
 obtain ⟨y17,y18,y19,y20,y21,y22,y23,_,⟨rfl,rfl⟩,h⟩ := hq
 conv => cbv
 refine ⟨z0e hO (Nat.le_of_ble_eq_true rfl) rfl,?_⟩
 first | (obtain ⟨hd1,h⟩ := z0u h; obtain ⟨hd2,h⟩ := z0u h; exact absurd (Int.lt_of_le_of_lt hd1 hd2) (Int.lt_irrefl 0)) | (obtain ⟨_,h⟩ := z0u h; obtain ⟨hd1,h⟩ := z0u h; obtain ⟨hd2,h⟩ := z0u h; exact absurd (Int.lt_of_le_of_lt hd1 hd2) (Int.lt_irrefl 0))
 obtain ⟨y7,y8,y9,y10,y11,_,⟨rfl,rfl⟩,h⟩ := hq
 conv => cbv
 refine z0i hO tiA [[0],[],[]] [(0,true,false),(1,true,false),(2,true,false),(3,true,false),(4,true,false),(5,true,false),(6,true,false),(7,true,false),(8,true,false),(9,false,false),(10,true,false),(11,false,true)] (by kernel_rfl) ?_
 conv => cbv
 refine and_h h (fun g => (by subst hO; exact g)) (fun h => ?_)
 refine and_h h (fun g => (by subst hO; exact g)) (fun h => ?_)
 obtain ⟨c12,c13,c14,c15,c16,hr,h⟩ := z0g h
 refine z0o hO _ (by subst hO; exact hr) ?_
 clear hr
 conv => cbv
 refine z0c hO [.ref 2,.shut] (ih_p58 O.len hN h) ?_
 intro os Q hos hQ
 conv => cbv
 refine ⟨(by (rw [hos]) <;> (subst hO; rfl)),?_⟩
 intro r bs hq
 rw [hQ] at hq
 clear hos hQ h
 obtain ⟨y17,y18,y19,y20,y21,y22,y23,_,⟨rfl,rfl⟩,h⟩ := hq
 conv => cbv
 refine ⟨z0e hO (Nat.le_of_ble_eq_true rfl) rfl,?_⟩
 refine ⟨(by subst hO; exact Nat.le_refl _),?_⟩
 refine and_h h (fun g => (by subst hO; exact g)) (fun h => ?_)
 refine and_h h (fun g => (by subst hO; exact g)) (fun h => ?_)
 refine and_h h (fun g => (by subst hO; exact g)) (fun h => ?_)
 refine and_h h (fun g => (by subst hO; exact g)) (fun h => ?_)
 refine z0b hO ?_
 conv => cbv
 refine z0m hO ?_
 conv => cbv
 refine z0v hO h (fun g => (by subst hO; exact g)) (fun h => ?_)
 conv => cbv
 rw [hQ]
 exact ⟨y7,y8,y9,y10,List.take y11.length (List.set y11 ((y4 : Int).toNat) (putAt (List.getD y11 ((y4 : Int).toNat) []) 0 [(CV.v (.int .i64 y17)),(CV.v (.int .i64 y18)),(CV.v (.string y19)),(CV.sl 3 y20 none),(CV.sl 5 y21 none)])),y22,y23,_,⟨(by subst hO; rfl),(by subst hO; rfl)⟩,h⟩
 conv => cbv
 refine z0b hO ?_
 conv => cbv
 refine z0c hO [.ref 2,.shut] (d_p52 fu O.len hN h) ?_
 intro os Q hos hQ
 conv => cbv
 refine ⟨(by (rw [hos]) <;> (subst hO; rfl)),?_⟩
 intro r bs hq
 rw [hQ] at hq
 clear hos hQ h
 obtain ⟨y24,y25,y26,_,⟨rfl,rfl⟩,h⟩ := hq
 conv => cbv
 refine br_h hO h (by subst hO; rfl) (fun hc2 h => ?_) (fun hc2 h => ?_)
 conv => cbv
 refine z0c hO [.shut] (d_p57 fu O.len hN h) ?_
 intro os Q hos hQ
 conv => cbv
 refine ⟨(by (rw [hos]) <;> (subst hO; rfl)),?_⟩
 intro r bs hq
 rw [hQ] at hq
 clear hos hQ h
 obtain ⟨y27,y28,y29,y30,y31,_,⟨rfl,rfl⟩,h⟩ := hq
 conv => cbv
 rw [hQ]
 exact ⟨y27,y28,y29,y30,y31,y25,y26,_,⟨(by subst hO; rfl),(by subst hO; rfl)⟩,h⟩
 conv => cbv
 refine br_h hO h (by subst hO; rfl) (fun hc3 h => ?_) (fun hc3 h => ?_)
 conv => cbv
 refine z0c hO [.ref 2,.shut] (d_p52 fu O.len hN h) ?_
 intro os Q hos hQ
 conv => cbv
 refine ⟨(by (rw [hos]) <;> (subst hO; rfl)),?_⟩
 intro r bs hq
 rw [hQ] at hq
 clear hos hQ h
 obtain ⟨y32,y33,y34,_,⟨rfl,rfl⟩,h⟩ := hq
 conv => cbv
 refine z0c hO [.shut] (d_p51 fu O.len hN h) ?_
 intro os Q hos hQ
 conv => cbv
 refine ⟨(by (rw [hos]) <;> (subst hO; rfl)),?_⟩
 intro r bs hq
 rw [hQ] at hq
 clear hos hQ h
 obtain ⟨y35,y36,y37,y38,y39,_,⟨rfl,rfl⟩,h⟩ := hq
 conv => cbv
 rw [hQ]
 exact ⟨y35,y36,y37,y38,y39,y33,y34,_,⟨(by subst hO; rfl),(by subst hO; rfl)⟩,h⟩
 conv => cbv
 refine br_h hO h (by subst hO; rfl) (fun hc4 h => ?_) (fun hc4 h => ?_)
 conv => cbv
 refine z0c hO [.ref 2,.shut] (d_p39 fu O.len hN h) ?_
 intro os Q hos hQ
 conv => cbv
 refine ⟨(by (rw [hos]) <;> (subst hO; rfl)),?_⟩
 intro r bs hq
 rw [hQ] at hq
 clear hos hQ h
 obtain ⟨y40,y41,y42,y43,y44,_,⟨rfl,rfl⟩,h⟩ := hq
 conv => cbv
 refine z0c hO [.shut] (d_p49 fu O.len hN h) ?_
 intro os Q hos hQ
 conv => cbv
 refine ⟨(by (rw [hos]) <;> (subst hO; rfl)),?_⟩
 intro r bs hq
 rw [hQ] at hq
 clear hos hQ h
 obtain ⟨y45,y46,y47,y48,y49,_,⟨rfl,rfl⟩,h⟩ := hq
 conv => cbv
 rw [hQ]
 exact ⟨y45,y46,y47,y48,y49,y43,y44,_,⟨(by subst hO; rfl),(by subst hO; rfl)⟩,h⟩
 conv => cbv
 refine br_h hO h (by subst hO; rfl) (fun hc5 h => ?_) (fun hc5 h => ?_)
 conv => cbv
 refine z0c hO [.ref 2,.shut] (d_p52 fu O.len hN h) ?_
 intro os Q hos hQ
 conv => cbv
 refine ⟨(by (rw [hos]) <;> (subst hO; rfl)),?_⟩
 intro r bs hq
 rw [hQ] at hq
 clear hos hQ h
 obtain ⟨y50,y51,y52,_,⟨rfl,rfl⟩,h⟩ := hq
 conv => cbv
 refine and_h h (fun g => (by subst hO; exact g)) (fun h => ?_)
 refine and_h h (fun g => (by subst hO; exact g)) (fun h => ?_)
 refine and_h h (fun g => (by subst hO; exact g)) (fun h => ?_)
 refine and_h h (fun g => (by subst hO; exact g)) (fun h => ?_)
 obtain ⟨c53,hr,h⟩ := z6c h
 refine z0o hO _ (by subst hO; exact hr) ?_
 clear hr
 conv => cbv
 refine z0c hO [.shut,.shut] (d_p107 fu O.len hN h) ?_
 intro os Q hos hQ
 conv => cbv
 refine ⟨(by (rw [hos]) <;> (subst hO; rfl)),?_⟩
 intro r bs hq
 rw [hQ] at hq
 clear hos hQ h
 obtain ⟨y54,y55,y56,y57,y58,_,_,⟨rfl,rfl⟩,h⟩ := hq
 conv => cbv
 rw [hQ]
 exact ⟨y54,y55,y56,y57,y58,y51,y52,_,⟨(by subst hO; rfl),(by subst hO; rfl)⟩,h⟩
 conv => cbv
 refine br_h hO h (by subst hO; rfl) (fun hc6 h => ?_) (fun hc6 h => ?_)
 conv => cbv
 refine z0c hO [.shut,.shut] (d_p68 fu O.len hN h) ?_
 intro os Q hos hQ
 conv => cbv
 refine ⟨(by (rw [hos]) <;> (subst hO; rfl)),?_⟩
 intro r bs hq
 rw [hQ] at hq
 clear hos hQ h
 obtain ⟨y59,y60,y61,y62,y63,_,_,⟨rfl,rfl⟩,h⟩ := hq
 conv => cbv
 rw [hQ]
 exact ⟨y59,y60,y61,y62,y63,y25,y26,_,⟨(by subst hO; rfl),(by subst hO; rfl)⟩,h⟩
 conv => cbv
 refine z0b hO ?_
 conv => cbv
 refine z0b hO ?_
 conv => cbv
 refine z0b hO ?_
 conv => cbv
 refine z0b hO ?_
 conv => cbv
 refine z0b hO ?_
 conv => cbv
 refine z0i hO tiA [[],[],[],[],[]] [(1,true,false),(0,false,false),(2,false,true),(3,false,true),(4,false,true)] (by kernel_rfl) ?_
 conv => cbv
 refine z0c hO [.shut] (d_p57 fu O.len hN h) ?_
 intro os Q hos hQ
 conv => cbv
 refine ⟨(by (rw [hos]) <;> (subst hO; rfl)),?_⟩
 intro r bs hq
 rw [hQ] at hq
 clear hos hQ h
 obtain ⟨y64,y65,y66,y67,y68,_,⟨rfl,rfl⟩,h⟩ := hq
 conv => cbv
 refine ⟨z0e hO (Nat.le_of_ble_eq_true rfl) rfl,?_⟩
 refine z0c hO [.shut,.shut,.shut] (d_p106 fu O.len hN h) ?_
 intro os Q hos hQ
 conv => cbv
 refine ⟨(by (rw [hos]) <;> (subst hO; rfl)),?_⟩
 intro r bs hq
 rw [hQ] at hq
 clear hos hQ h
 obtain ⟨y69,y70,y71,y72,y73,_,_,_,⟨rfl,rfl⟩,h⟩ := hq
 conv => cbv
 refine z0c hO [.shut,.shut] (d_p103 fu O.len hN h) ?_
 intro os Q hos hQ
 conv => cbv
 refine ⟨(by (rw [hos]) <;> (subst hO; rfl)),?_⟩
 intro r bs hq
 rw [hQ] at hq
 clear hos hQ h
 obtain ⟨y74,y75,y76,y77,y78,_,_,⟨rfl,rfl⟩,h⟩ := hq
 conv => cbv
 refine z0b hO ?_
 conv => cbv
 rw [hQ]
 exact ⟨y74,y75,y76,y77,y78,y25,y26,_,⟨(by subst hO; rfl),(by subst hO; rfl)⟩,h⟩
theorem dd_p58 (fu : Nat) : D_p58 fu := by
 induction fu with
 | zero => unfold D_p58; intros; rename_i h; rw [p58] at h; exact h.elim
 | succ n ih =>
  exact (by unfold D_p58; intro K0 L hN x0 x1 x2 x3 x4 x5 x6 h; exact b_p58 n ih L hN (by rw [p58] at h; exact h))
theorem d_p58 (fu : Nat) : D_p58 fu := dd_p58 fu
theorem d_p15 (fu : Nat) {K0 : Int → Int → ByteArray → EL → EL → EL → Int → Prop} (L : EL → Nat) (hN : L = List.length) {x0 : EL} {x1 : Int} (h : p15 False fu K0 x0 x1) : Den Try.prog G0 15 [.ptr [.c (.sl 1 x0 none),.c (.v (.int .i64 x1))]] (fun r bs => (∃ (y0 y1 : Int) (y2 : ByteArray) (y3 y4 y5 : EL) (y6 : Int),(r = .agg [.c (.v (.int .i64 y0)),.c (.v (.int .i64 y1)),.c (.v (.string y2)),.c (.sl 3 y3 none),.c (.sl 5 y4 none)] ∧ bs = [.ptr [.c (.sl 1 y5 none),.c (.v (.int .i64 y6))]]) ∧ K0 y0 y1 y2 y3 y4 y5 y6)) := by
 obtain ⟨O,hO⟩ : ∃ O,O = std 1 T G0 (Den Try.prog G0) := ⟨_,rfl⟩
 have hLO : L = O.len := by rw [hN,hO]; rfl
 subst hLO
 refine den_h hO tiA mixed tabOk (fn := Try.f15) (sh := true) (by kernel_rfl) rfl rfl rfl rfl ?_
 intro Q hQ
 unfold p15 at h
 conv => cbv
 refine z0c hO [.ref 2,.shut] (d_p52 fu O.len hN h) ?_
 intro os Q hos hQ
 conv => cbv
 refine ⟨(by (rw [hos]) <;> (subst hO; rfl)),?_⟩
 intro r bs hq
 rw [hQ] at hq
 clear hos hQ h
 obtain ⟨y1,y2,y3,_,⟨rfl,rfl⟩,h⟩ := hq
 conv => cbv
 refine z0h hO tiA h (by subst hO; rfl) [0,2,3] [0,3000,4000] [] (fun tm m => ∃ (j4 : EL) (j5 : Int) (j6 : Int) (j7 : Int) (j8 : ByteArray) (j9 : EL) (j10 : EL),((tm = frame 0 45 [(0,.p 0 0 0),(2,.p 3000 1 0),(3,.p 4000 1 0)] ∧ m = ⟨[(0,.blk 0 [.c (.sl 1 j4 none),.c (.v (.int .i64 j5))]),(3000,.blk 1 [.c (.v (.int .i64 0)),.c (.v (.int .i64 0)),.c (.v (.string ⟨#[]⟩)),.c (.sl 3 [] (some [])),.c (.sl 5 [] (some []))]),(4000,.blk 1 [.c (.v (.int .i64 j6)),.c (.v (.int .i64 j7)),.c (.v (.string j8)),.c (.sl 3 j9 none),.c (.sl 5 j10 none)])],2⟩)) ∧ p15_1 False fu K0 j4 j5 j6 j7 j8 j9 j10) (fun hc2 h L hL_1 => ?_) (fun hc2 h L hL_1 => ?_) ?_
 conv => cbv
 refine z0c hO [.ref 2,.shut] (d_p53 fu O.len hN h) ?_
 intro os Q hos hQ
 conv => cbv
 refine ⟨(by (rw [hos]) <;> (subst hO; rfl)),?_⟩
 intro r bs hq
 rw [hQ] at hq
 clear hos hQ h
 obtain ⟨y21,y22,y23,y24,y25,y26,y27,_,⟨rfl,rfl⟩,h⟩ := hq
 conv => cbv
 exact hL_1 _ _ ⟨y26,y27,y21,y22,y23,y24,y25,⟨(by (conv => lhs; cbv) <;> (subst hO; rfl)),(by (conv => lhs; cbv) <;> (subst hO; rfl))⟩,h⟩
 conv => cbv
 refine z0h hO tiA h (by subst hO; rfl) [0,2,3] [0,3000,4000] [] (fun tm m => ∃ (j28 : EL) (j29 : Int) (j30 : Int) (j31 : Int) (j32 : ByteArray) (j33 : EL) (j34 : EL),((tm = frame 0 45 [(0,.p 0 0 0),(2,.p 3000 1 0),(3,.p 4000 1 0)] ∧ m = ⟨[(0,.blk 0 [.c (.sl 1 j28 none),.c (.v (.int .i64 j29))]),(3000,.blk 1 [.c (.v (.int .i64 0)),.c (.v (.int .i64 0)),.c (.v (.string ⟨#[]⟩)),.c (.sl 3 [] (some [])),.c (.sl 5 [] (some []))]),(4000,.blk 1 [.c (.v (.int .i64 j30)),.c (.v (.int .i64 j31)),.c (.v (.string j32)),.c (.sl 3 j33 none),.c (.sl 5 j34 none)])],2⟩)) ∧ p15_2 False fu K0 j28 j29 j30 j31 j32 j33 j34) (fun hc3 h L hL_2 => ?_) (fun hc3 h L hL_2 => ?_) ?_
 conv => cbv
 refine z0c hO [.ref 2,.shut] (d_p54b fu O.len hN h) ?_
 intro os Q hos hQ
 conv => cbv
 refine ⟨(by (rw [hos]) <;> (subst hO; rfl)),?_⟩
 intro r bs hq
 rw [hQ] at hq
 clear hos hQ h
 obtain ⟨y35,y36,y37,y38,y39,y40,y41,_,⟨rfl,rfl⟩,h⟩ := hq
 conv => cbv
 exact hL_2 _ _ ⟨y40,y41,y35,y36,y37,y38,y39,⟨(by (conv => lhs; cbv) <;> (subst hO; rfl)),(by (conv => lhs; cbv) <;> (subst hO; rfl))⟩,h⟩
 conv => cbv
 refine z0h hO tiA h (by subst hO; rfl) [0,2,3] [0,3000,4000] [] (fun tm m => ∃ (j42 : EL) (j43 : Int) (j44 : Int) (j45 : Int) (j46 : ByteArray) (j47 : EL) (j48 : EL),((tm = frame 0 45 [(0,.p 0 0 0),(2,.p 3000 1 0),(3,.p 4000 1 0)] ∧ m = ⟨[(0,.blk 0 [.c (.sl 1 j42 none),.c (.v (.int .i64 j43))]),(3000,.blk 1 [.c (.v (.int .i64 0)),.c (.v (.int .i64 0)),.c (.v (.string ⟨#[]⟩)),.c (.sl 3 [] (some [])),.c (.sl 5 [] (some []))]),(4000,.blk 1 [.c (.v (.int .i64 j44)),.c (.v (.int .i64 j45)),.c (.v (.string j46)),.c (.sl 3 j47 none),.c (.sl 5 j48 none)])],2⟩)) ∧ p15_3 False fu K0 j42 j43 j44 j45 j46 j47 j48) (fun hc4 h L hL_3 => ?_) (fun hc4 h L hL_3 => ?_) ?_
 conv => cbv
 refine z0c hO [.ref 2,.shut] (d_p55 fu O.len hN h) ?_
 intro os Q hos hQ
 conv => cbv
 refine ⟨(by (rw [hos]) <;> (subst hO; rfl)),?_⟩
 intro r bs hq
 rw [hQ] at hq
 clear hos hQ h
 obtain ⟨y49,y50,y51,y52,y53,y54,y55,_,⟨rfl,rfl⟩,h⟩ := hq
 conv => cbv
 exact hL_3 _ _ ⟨y54,y55,y49,y50,y51,y52,y53,⟨(by (conv => lhs; cbv) <;> (subst hO; rfl)),(by (conv => lhs; cbv) <;> (subst hO; rfl))⟩,h⟩
 conv => cbv
 refine z0h hO tiA h (by subst hO; rfl) [0,2,3] [0,3000,4000] [] (fun tm m => ∃ (j56 : EL) (j57 : Int) (j58 : Int) (j59 : Int) (j60 : ByteArray) (j61 : EL) (j62 : EL),((tm = frame 0 45 [(0,.p 0 0 0),(2,.p 3000 1 0),(3,.p 4000 1 0)] ∧ m = ⟨[(0,.blk 0 [.c (.sl 1 j56 none),.c (.v (.int .i64 j57))]),(3000,.blk 1 [.c (.v (.int .i64 0)),.c (.v (.int .i64 0)),.c (.v (.string ⟨#[]⟩)),.c (.sl 3 [] (some [])),.c (.sl 5 [] (some []))]),(4000,.blk 1 [.c (.v (.int .i64 j58)),.c (.v (.int .i64 j59)),.c (.v (.string j60)),.c (.sl 3 j61 none),.c (.sl 5 j62 none)])],2⟩)) ∧ p15_4 False fu K0 j56 j57 j58 j59 j60 j61 j62) (fun hc5 h L hL_4 => ?_) (fun hc5 h L hL_4 => ?_) ?_
 conv => cbv
 refine z0c hO [.ref 2,.shut] (d_p56 fu O.len hN h) ?_
 intro os Q hos hQ
 conv => cbv
 refine ⟨(by (rw [hos]) <;> (subst hO; rfl)),?_⟩
 intro r bs hq
 rw [hQ] at hq
 clear hos hQ h
 obtain ⟨y63,y64,y65,y66,y67,y68,y69,y70,y71,y72,y73,y74,_,⟨rfl,rfl⟩,h⟩ := hq
 conv => cbv
 exact hL_4 _ _ ⟨y73,y74,y63,y64,y65,y66,y67,⟨(by (conv => lhs; cbv) <;> (subst hO; rfl)),(by (conv => lhs; cbv) <;> (subst hO; rfl))⟩,h⟩
 conv => cbv
 refine z0h hO tiA h (by subst hO; rfl) [0,2,3] [0,3000,4000] [] (fun tm m => ∃ (j75 : EL) (j76 : Int) (j77 : Int) (j78 : Int) (j79 : ByteArray) (j80 : EL) (j81 : EL),((tm = frame 0 45 [(0,.p 0 0 0),(2,.p 3000 1 0),(3,.p 4000 1 0)] ∧ m = ⟨[(0,.blk 0 [.c (.sl 1 j75 none),.c (.v (.int .i64 j76))]),(3000,.blk 1 [.c (.v (.int .i64 0)),.c (.v (.int .i64 0)),.c (.v (.string ⟨#[]⟩)),.c (.sl 3 [] (some [])),.c (.sl 5 [] (some []))]),(4000,.blk 1 [.c (.v (.int .i64 j77)),.c (.v (.int .i64 j78)),.c (.v (.string j79)),.c (.sl 3 j80 none),.c (.sl 5 j81 none)])],2⟩)) ∧ p15_5 False fu K0 j75 j76 j77 j78 j79 j80 j81) (fun hc6 h L hL_5 => ?_) (fun hc6 h L hL_5 => ?_) ?_
 conv => cbv
 refine z0c hO [.ref 2,.shut] (d_p56 fu O.len hN h) ?_
 intro os Q hos hQ
 conv => cbv
 refine ⟨(by (rw [hos]) <;> (subst hO; rfl)),?_⟩
 intro r bs hq
 rw [hQ] at hq
 clear hos hQ h
 obtain ⟨y82,y83,y84,y85,y86,y87,y88,y89,y90,y91,y92,y93,_,⟨rfl,rfl⟩,h⟩ := hq
 conv => cbv
 exact hL_5 _ _ ⟨y92,y93,y87,y88,y89,y90,y91,⟨(by (conv => lhs; cbv) <;> (subst hO; rfl)),(by (conv => lhs; cbv) <;> (subst hO; rfl))⟩,h⟩
 conv => cbv
 refine z0c hO [.ref 2,.shut] (d_p52 fu O.len hN h) ?_
 intro os Q hos hQ
 conv => cbv
 refine ⟨(by (rw [hos]) <;> (subst hO; rfl)),?_⟩
 intro r bs hq
 rw [hQ] at hq
 clear hos hQ h
 obtain ⟨y94,y95,y96,_,⟨rfl,rfl⟩,h⟩ := hq
 conv => cbv
 refine and_h h (fun g => (by subst hO; exact g)) (fun h => ?_)
 refine and_h h (fun g => (by subst hO; exact g)) (fun h => ?_)
 refine and_h h (fun g => (by subst hO; exact g)) (fun h => ?_)
 refine and_h h (fun g => (by subst hO; exact g)) (fun h => ?_)
 obtain ⟨c97,hr,h⟩ := z6c h
 refine z0o hO _ (by subst hO; exact hr) ?_
 clear hr
 conv => cbv
 refine z0c hO [.shut] (d_p57 fu O.len hN h) ?_
 intro os Q hos hQ
 conv => cbv
 refine ⟨(by (rw [hos]) <;> (subst hO; rfl)),?_⟩
 intro r bs hq
 rw [hQ] at hq
 clear hos hQ h
 obtain ⟨y98,y99,y100,y101,y102,_,⟨rfl,rfl⟩,h⟩ := hq
 conv => cbv
 exact hL_5 _ _ ⟨y95,y96,y98,y99,y100,y101,y102,⟨(by (conv => lhs; cbv) <;> (subst hO; rfl)),(by (conv => lhs; cbv) <;> (subst hO; rfl))⟩,h⟩
 rintro tm m ⟨j75,j76,j77,j78,j79,j80,j81,hs,h⟩
 unfold p15_5 at h
 obtain ⟨rfl,rfl⟩ := hs
 conv => cbv
 exact hL_4 _ _ ⟨j75,j76,j77,j78,j79,j80,j81,⟨(by (conv => lhs; cbv) <;> (subst hO; rfl)),(by (conv => lhs; cbv) <;> (subst hO; rfl))⟩,h⟩
 rintro tm m ⟨j56,j57,j58,j59,j60,j61,j62,hs,h⟩
 unfold p15_4 at h
 obtain ⟨rfl,rfl⟩ := hs
 conv => cbv
 exact hL_3 _ _ ⟨j56,j57,j58,j59,j60,j61,j62,⟨(by (conv => lhs; cbv) <;> (subst hO; rfl)),(by (conv => lhs; cbv) <;> (subst hO; rfl))⟩,h⟩
 rintro tm m ⟨j42,j43,j44,j45,j46,j47,j48,hs,h⟩
 unfold p15_3 at h
 obtain ⟨rfl,rfl⟩ := hs
 conv => cbv
 exact hL_2 _ _ ⟨j42,j43,j44,j45,j46,j47,j48,⟨(by (conv => lhs; cbv) <;> (subst hO; rfl)),(by (conv => lhs; cbv) <;> (subst hO; rfl))⟩,h⟩
 rintro tm m ⟨j28,j29,j30,j31,j32,j33,j34,hs,h⟩
 unfold p15_2 at h
 obtain ⟨rfl,rfl⟩ := hs
 conv => cbv
 exact hL_1 _ _ ⟨j28,j29,j30,j31,j32,j33,j34,⟨(by (conv => lhs; cbv) <;> (subst hO; rfl)),(by (conv => lhs; cbv) <;> (subst hO; rfl))⟩,h⟩
 rintro tm m ⟨j4,j5,j6,j7,j8,j9,j10,hs,h⟩
 unfold p15_1 at h
 obtain ⟨rfl,rfl⟩ := hs
 conv => cbv
 refine z0c hO [.ref 2,.shut] (d_p52 fu O.len hN h) ?_
 intro os Q hos hQ
 conv => cbv
 refine ⟨(by (rw [hos]) <;> (subst hO; rfl)),?_⟩
 intro r bs hq
 rw [hQ] at hq
 clear hos hQ h
 obtain ⟨y11,y12,y13,_,⟨rfl,rfl⟩,h⟩ := hq
 conv => cbv
 refine br_h hO h (by subst hO; rfl) (fun hc1 h => ?_) (fun hc1 h => ?_)
 conv => cbv
 refine z0c hO [.ref 2,.shut] (d_p58 fu O.len hN h) ?_
 intro os Q hos hQ
 conv => cbv
 refine ⟨(by (rw [hos]) <;> (subst hO; rfl)),?_⟩
 intro r bs hq
 rw [hQ] at hq
 clear hos hQ h
 obtain ⟨y14,y15,y16,y17,y18,y19,y20,_,⟨rfl,rfl⟩,h⟩ := hq
 conv => cbv
 rw [hQ]
 exact ⟨y14,y15,y16,y17,y18,y19,y20,⟨(by subst hO; rfl),(by subst hO; rfl)⟩,h⟩
 conv => cbv
 refine z0b hO ?_
 conv => cbv
 rw [hQ]
 exact ⟨j6,j7,j8,j9,j10,y12,y13,⟨(by subst hO; rfl),(by subst hO; rfl)⟩,h⟩
theorem d_p12 (fu : Nat) {K0 : Bool → Prop} (L : EL → Nat) (hN : L = List.length) {x0 : EL} {x1 : Int} {x2 : EL} (h : p12 False fu K0 x0 x1 x2) : Den Try.prog G0 12 [.c (.sl 1 x0 none),.c (.v (.int .u8 x1)),.c (.sl 1 x2 none)] (fun r bs => (∃ (y0 : Bool) (o0 o1 o2 : OV),(r = .c (.v (.bool y0)) ∧ bs = [o0,o1,o2]) ∧ K0 y0)) := by
 obtain ⟨O,hO⟩ : ∃ O,O = std 0 T G0 (Den Try.prog G0) := ⟨_,rfl⟩
 have hLO : L = O.len := by rw [hN,hO]; rfl
 subst hLO
 refine den_h hO tiA mixed tabOk (fn := Try.f12) (sh := true) (by kernel_rfl) rfl rfl rfl rfl ?_
 intro Q hQ
 unfold p12 at h
 conv => cbv
 refine z0c hO [] (d_p41 fu O.len hN h) ?_
 intro os Q hos hQ
 conv => cbv
 refine ⟨(by (rw [hos]) <;> (subst hO; rfl)),?_⟩
 intro r bs hq
 rw [hQ] at hq
 clear hos hQ h
 obtain ⟨y1,⟨rfl,rfl⟩,h⟩ := hq
 conv => cbv
 refine br_h hO h (by subst hO; rfl) (fun hc1 h => ?_) (fun hc1 h => ?_)
 conv => cbv
 rw [hQ]
 exact ⟨false,_,_,_,⟨(by subst hO; rfl),(by subst hO; rfl)⟩,h⟩
 conv => cbv
 refine z0b hO ?_
 conv => cbv
 refine z0l hO tiA [0,1,2,23] [] [] (fun tm m => ∃ (j2 : Bool),((tm = frame 0 84 [(0,.c (.sl 1 x0 none)),(1,.c (.v (.int .u8 x1))),(2,.c (.sl 1 x2 none)),(23,.c (.v (.bool j2)))] ∧ m = ⟨[],1⟩)) ∧ p12_3 False fu K0 x0 x1 x2 j2) (fun L hL_3 => ?_) ?_
 conv => cbv
 refine br_h hO h (by subst hO; rfl) (fun hc9 h => ?_) (fun hc9 h => ?_)
 conv => cbv
 refine br_t hO hc9 ?_
 conv => cbv
 refine br_t hO hc9 ?_
 conv => cbv
 refine br_t hO hc9 ?_
 conv => cbv
 exact hL_3 _ _ ⟨true,⟨(by (conv => lhs; cbv) <;> (subst hO; rfl)),(by (conv => lhs; cbv) <;> (subst hO; rfl))⟩,h⟩
 conv => cbv
 refine br_f hO hc9 ?_
 conv => cbv
 refine br_f hO hc9 ?_
 conv => cbv
 refine br_f hO hc9 ?_
 conv => cbv
 exact hL_3 _ _ ⟨(z0a .gtr ((x2.length : Nat) : Int) 20),⟨(by (conv => lhs; cbv) <;> (subst hO; rfl)),(by (conv => lhs; cbv) <;> (subst hO; rfl))⟩,h⟩
 rintro tm m ⟨j2,hs,h⟩
 unfold p12_3 at h
 obtain ⟨rfl,rfl⟩ := hs
 conv => cbv
 refine br_h hO h (by subst hO; rfl) (fun hc2 h => ?_) (fun hc2 h => ?_)
 conv => cbv
 rw [hQ]
 exact ⟨true,_,_,_,⟨(by subst hO; rfl),(by subst hO; rfl)⟩,h⟩
 conv => cbv
 refine z0b hO ?_
 conv => cbv
 refine z0c hO [.shut] (d_p14 fu O.len hN h) ?_
 intro os Q hos hQ
 conv => cbv
 refine ⟨(by (rw [hos]) <;> (subst hO; rfl)),?_⟩
 intro r bs hq
 rw [hQ] at hq
 clear hos hQ h
 obtain ⟨y3,y4,_,⟨rfl,rfl⟩,h⟩ := hq
 conv => cbv
 refine z0c hO [.ref 2] (d_p15 fu O.len hN h) ?_
 intro os Q hos hQ
 conv => cbv
 refine ⟨(by (rw [hos]) <;> (subst hO; rfl)),?_⟩
 intro r bs hq
 rw [hQ] at hq
 clear hos hQ h
 obtain ⟨y5,y6,y7,y8,y9,y10,y11,⟨rfl,rfl⟩,h⟩ := hq
 conv => cbv
 refine z0c hO [.shut] (d_p16 fu O.len hN h) ?_
 intro os Q hos hQ
 conv => cbv
 refine ⟨(by (rw [hos]) <;> (subst hO; rfl)),?_⟩
 intro r bs hq
 rw [hQ] at hq
 clear hos hQ h
 obtain ⟨y12,_,⟨rfl,rfl⟩,h⟩ := hq
 conv => cbv
 refine br_h hO h (by subst hO; rfl) (fun hc3 h => ?_) (fun hc3 h => ?_)
 conv => cbv
 rw [hQ]
 exact ⟨true,_,_,_,⟨(by subst hO; rfl),(by subst hO; rfl)⟩,h⟩
 conv => cbv
 refine z0b hO ?_
 conv => cbv
 refine z0s hO tiA [1,2,8,9] [9000,50000] [] (fun (n : Nat) tm m => ∃ (z13 : EL) (z14 : Int),((z13 = [] ∧ tm = frame 0 84 [(1,.c (.v (.int .u8 x1))),(2,.c (.sl 1 x2 none)),(8,.p 9000 0 0),(9,.c (.v (.int .i64 z14)))] ∧ m = ⟨[(9000,.blk 0 [.c (.v (.int .i64 0)),.c (.v (.int .u64 0)),.c (.v (.int .u64 0)),.c (.v (.int .i64 0)),.c (.v (.int .i64 0)),.c (.v (.bool false)),.c (.v (.int .i64 y5)),.c (.v (.int .i64 y6)),.c (.v (.string y7)),.c (.sl 3 y8 none),.c (.sl 5 y9 none),.c (.v (.int .i64 0)),.c (.sl 1 [] (some []))])],1⟩) ∨ (tm = frame 0 84 [(1,.c (.v (.int .u8 x1))),(2,.c (.sl 1 x2 none)),(8,.p 9000 0 0),(9,.c (.v (.int .i64 z14)))] ∧ m = ⟨[(9000,.blk 0 [.c (.v (.int .i64 0)),.c (.v (.int .u64 0)),.c (.v (.int .u64 0)),.c (.v (.int .i64 0)),.c (.v (.int .i64 0)),.c (.v (.bool false)),.c (.v (.int .i64 y5)),.c (.v (.int .i64 y6)),.c (.v (.string y7)),.c (.sl 3 y8 none),.c (.sl 5 y9 none),.c (.v (.int .i64 0)),.t 50000 0 (O.len z13)]),(50000,.arr 0 1 z13 none false)],1⟩)) ∧ p12_2L False fu K0 x1 x2 y5 y6 y7 y8 y9 n z13 z14) (fun n => n) fu ⟨nilE,0,(.inl ⟨rfl,(by (conv => lhs; cbv) <;> (subst hO; rfl)),(by (conv => lhs; cbv) <;> (subst hO; rfl))⟩),h⟩ ?_
 rintro n1 tm m L ⟨z13,z14,hs,h⟩ hLn1
 (cases n1 with
 | zero => rw [p12_2L] at h; exact h.elim
 | succ n1 =>
 rw [p12_2L] at h
 unfold p12_2 at h
 rcases hs with hs | hs
 obtain ⟨rfl,rfl,rfl⟩ := hs
 conv => cbv
 refine br_h hO h (by subst hO; rfl) (fun hc4 h => ?_) (fun hc4 h => ?_)
 conv => cbv
 refine z0b hO ?_
 conv => cbv
 refine z0i hO tiA [[],[],[],[],[]] [(0,true,false),(1,true,false),(2,true,false),(3,true,false),(4,true,false),(5,true,false),(6,true,false),(7,true,false),(8,false,false),(9,true,false),(10,false,false),(11,false,false),(12,true,true),(13,false,true)] (by kernel_rfl) ?_
 conv => cbv
 refine and_h h (fun g => (by subst hO; exact g)) (fun h => ?_)
 refine and_h h (fun g => (by subst hO; exact g)) (fun h => ?_)
 obtain ⟨c15,hr,h⟩ := z3y h
 refine z0o hO _ (by subst hO; exact hr) ?_
 clear hr
 conv => cbv
 refine and_h h (fun g => (by subst hO; exact g)) (fun h => ?_)
 refine ⟨z0e hO (Nat.le_of_ble_eq_true rfl) rfl,?_⟩
 refine z0v hO h (fun g => (by subst hO; exact g)) (fun h => ?_)
 conv => cbv
 refine tob_h hO h (by subst hO; rfl) (fun s16 h => ?_)
 conv => cbv
 refine ⟨z0e hO (Nat.le_of_ble_eq_true rfl) rfl,?_⟩
 refine z0v hO h (fun g => (by subst hO; exact g)) (fun h => ?_)
 conv => cbv
 refine and_h h (fun g => (by subst hO; exact g)) (fun h => ?_)
 refine z3r hO (by subst hO; exact List.cons_ne_nil _ _) ?_
 conv => cbv
 refine ⟨z0e hO (Nat.le_of_ble_eq_true rfl) rfl,?_⟩
 refine z0b hO ?_
 conv => cbv
 exact hLn1 n1 _ _ (Nat.lt_succ_self n1) ⟨(nilE ++ (List.take 1 [[(CV.v (.string s16))]])),z0d .add .i64 z14 1,(.inr ⟨(by (conv => lhs; cbv) <;> (subst hO; rfl)),(by (conv => lhs; cbv) <;> (subst hO; rfl))⟩),h⟩
 conv => cbv
 refine z0c hO [.shut,.shut] (d_p43 fu O.len hN h) ?_
 intro os Q hos hQ
 conv => cbv
 refine ⟨(by (rw [hos]) <;> (subst hO; rfl)),?_⟩
 intro r bs hq
 rw [hQ] at hq
 clear hos hQ h
 obtain ⟨y17,_,_,⟨rfl,rfl⟩,h⟩ := hq
 conv => cbv
 refine z0c hO [.shut] (d_p45 fu O.len hN h) ?_
 intro os Q hos hQ
 conv => cbv
 refine z0m hO ?_
 conv => cbv
 refine ⟨(by (rw [hos]) <;> (subst hO; rfl)),?_⟩
 intro r bs hq
 rw [hQ] at hq
 clear hos hQ h
 obtain ⟨y18,y19,y20,y21,y22,y23,y24,y25,y26,y27,y28,y29,y30,y31,_,⟨rfl,rfl⟩,h⟩ := hq
 conv => cbv
 have hz := z0u h
 have hc8 := hz.1
 replace h := hz.2
 clear hz
 refine z0c hO [.shut,.shut] (d_p43 fu O.len hN h) ?_
 intro os Q hos hQ
 conv => cbv
 refine z0r hO (by subst hO; exact hc8) ?_
 conv => cbv
 refine ⟨(by (rw [hos]) <;> (subst hO; rfl)),?_⟩
 intro r bs hq
 rw [hQ] at hq
 clear hos hQ h
 obtain ⟨y32,_,_,⟨rfl,rfl⟩,h⟩ := hq
 conv => cbv
 refine z0c hO [.shut] (d_p45 fu O.len hN h) ?_
 intro os Q hos hQ
 conv => cbv
 refine z0m hO ?_
 conv => cbv
 refine ⟨(by (rw [hos]) <;> (subst hO; rfl)),?_⟩
 intro r bs hq
 rw [hQ] at hq
 clear hos hQ h
 obtain ⟨y33,y34,y35,y36,y37,y38,y39,y40,y41,y42,y43,y44,y45,y46,_,⟨rfl,rfl⟩,h⟩ := hq
 conv => cbv
 refine z0l hO tiA [6] [] [] (fun tm m => ∃ (j47 : Bool),((tm = frame 0 84 [(6,.c (.v (.bool j47)))] ∧ m = ⟨[],1⟩)) ∧ p12_1 False fu K0 j47) (fun L hL_1 => ?_) ?_
 conv => cbv
 refine br_h hO h (by subst hO; rfl) (fun hc5 h => ?_) (fun hc5 h => ?_)
 conv => cbv
 refine br_t hO hc5 ?_
 conv => cbv
 refine br_t hO hc5 ?_
 conv => cbv
 refine br_h hO h (by subst hO; rfl) (fun hc6 h => ?_) (fun hc6 h => ?_)
 conv => cbv
 refine br_t hO hc6 ?_
 conv => cbv
 refine br_t hO hc6 ?_
 conv => cbv
 refine z0c hO [.shut,.shut] (d_p47 fu O.len hN h) ?_
 intro os Q hos hQ
 conv => cbv
 refine ⟨(by (rw [hos]) <;> (subst hO; rfl)),?_⟩
 intro r bs hq
 rw [hQ] at hq
 clear hos hQ h
 obtain ⟨y48,_,_,⟨rfl,rfl⟩,h⟩ := hq
 conv => cbv
 refine br_t hO hc6 ?_
 conv => cbv
 refine br_h hO h (by subst hO; rfl) (fun hc7 h => ?_) (fun hc7 h => ?_)
 conv => cbv
 refine br_t hO hc7 ?_
 conv => cbv
 refine br_t hO hc7 ?_
 conv => cbv
 refine br_t hO hc7 ?_
 conv => cbv
 refine br_t hO hc7 ?_
 conv => cbv
 refine z0c hO [.shut,.shut] (d_p47 fu O.len hN h) ?_
 intro os Q hos hQ
 conv => cbv
 refine ⟨(by (rw [hos]) <;> (subst hO; rfl)),?_⟩
 intro r bs hq
 rw [hQ] at hq
 clear hos hQ h
 obtain ⟨y49,_,_,⟨rfl,rfl⟩,h⟩ := hq
 conv => cbv
 refine br_t hO hc7 ?_
 conv => cbv
 exact hL_1 _ _ ⟨y49,⟨(by (conv => lhs; cbv) <;> (subst hO; rfl)),(by (conv => lhs; cbv) <;> (subst hO; rfl))⟩,h⟩
 conv => cbv
 refine br_f hO hc7 ?_
 conv => cbv
 refine br_f hO hc7 ?_
 conv => cbv
 refine br_f hO hc7 ?_
 conv => cbv
 refine br_f hO hc7 ?_
 conv => cbv
 refine br_f hO hc7 ?_
 conv => cbv
 exact hL_1 _ _ ⟨false,⟨(by (conv => lhs; cbv) <;> (subst hO; rfl)),(by (conv => lhs; cbv) <;> (subst hO; rfl))⟩,h⟩
 conv => cbv
 refine br_f hO hc6 ?_
 conv => cbv
 refine br_f hO hc6 ?_
 conv => cbv
 refine br_f hO hc6 ?_
 conv => cbv
 refine br_f hO rfl ?_
 conv => cbv
 refine br_f hO rfl ?_
 conv => cbv
 refine br_f hO rfl ?_
 conv => cbv
 refine br_f hO rfl ?_
 conv => cbv
 refine br_f hO rfl ?_
 conv => cbv
 refine br_f hO rfl ?_
 conv => cbv
 exact hL_1 _ _ ⟨false,⟨(by (conv => lhs; cbv) <;> (subst hO; rfl)),(by (conv => lhs; cbv) <;> (subst hO; rfl))⟩,h⟩
 conv => cbv
 refine br_f hO hc5 ?_
 conv => cbv
 refine br_f hO hc5 ?_
 conv => cbv
 refine br_f hO rfl ?_
 conv => cbv
 refine br_f hO rfl ?_
 conv => cbv
 refine br_f hO rfl ?_
 conv => cbv
 refine br_f hO rfl ?_
 conv => cbv
 refine br_f hO rfl ?_
 conv => cbv
 refine br_f hO rfl ?_
 conv => cbv
 refine br_f hO rfl ?_
 conv => cbv
 refine br_f hO rfl ?_
 conv => cbv
 refine br_f hO rfl ?_
 conv => cbv
 refine br_f hO rfl ?_
 conv => cbv
 exact hL_1 _ _ ⟨false,⟨(by (conv => lhs; cbv) <;> (subst hO; rfl)),(by (conv => lhs; cbv) <;> (subst hO; rfl))⟩,h⟩
 rintro tm m ⟨j47,hs,h⟩
 unfold p12_1 at h
 obtain ⟨rfl,rfl⟩ := hs
 conv => cbv
 rw [hQ]
 exact ⟨j47,_,_,_,⟨(by subst hO; rfl),(by subst hO; rfl)⟩,h⟩
 obtain ⟨rfl,rfl⟩ := hs
 conv => cbv
 refine br_h hO h (by subst hO; rfl) (fun hc4 h => ?_) (fun hc4 h => ?_)
 conv => cbv
 refine z0b hO ?_
 conv => cbv
 refine z0i hO tiA [[50000],[50000],[50000],[],[]] [(0,true,false),(1,true,false),(2,true,false),(3,true,false),(4,true,false),(5,true,false),(6,true,false),(7,true,false),(8,false,false),(9,true,false),(10,false,false),(11,false,false),(12,true,true),(13,false,true)] (by kernel_rfl) ?_
 conv => cbv
 refine and_h h (fun g => (by subst hO; exact g)) (fun h => ?_)
 refine and_h h (fun g => (by subst hO; exact g)) (fun h => ?_)
 obtain ⟨c15,hr,h⟩ := z3y h
 refine z0o hO _ (by subst hO; exact hr) ?_
 clear hr
 conv => cbv
 refine and_h h (fun g => (by subst hO; exact g)) (fun h => ?_)
 refine ⟨z0e hO (Nat.le_of_ble_eq_true rfl) rfl,?_⟩
 refine z0v hO h (fun g => (by subst hO; exact g)) (fun h => ?_)
 conv => cbv
 refine tob_h hO h (by subst hO; rfl) (fun s16 h => ?_)
 conv => cbv
 refine ⟨z0e hO (Nat.le_of_ble_eq_true rfl) rfl,?_⟩
 refine z0v hO h (fun g => (by subst hO; exact g)) (fun h => ?_)
 conv => cbv
 refine ⟨(by subst hO; rfl),?_⟩
 refine and_h h (fun g => (by subst hO; exact g)) (fun h => ?_)
 refine ⟨z0e hO (Nat.le_of_ble_eq_true rfl) rfl,?_⟩
 refine z0b hO ?_
 conv => cbv
 exact hLn1 n1 _ _ (Nat.lt_succ_self n1) ⟨(z13 ++ (List.take 1 [[(CV.v (.string s16))]])),z0d .add .i64 z14 1,(.inr ⟨(by (conv => lhs; cbv) <;> (subst hO; rfl)),(by (conv => lhs; cbv) <;> (subst hO; rfl))⟩),h⟩
 conv => cbv
 refine z0c hO [.shut,.shut] (d_p43 fu O.len hN h) ?_
 intro os Q hos hQ
 conv => cbv
 refine z0m hO ?_
 conv => cbv
 refine ⟨(by (rw [hos]) <;> (subst hO; rfl)),?_⟩
 intro r bs hq
 rw [hQ] at hq
 clear hos hQ h
 obtain ⟨y17,_,_,⟨rfl,rfl⟩,h⟩ := hq
 conv => cbv
 refine z0c hO [.shut] (d_p45 fu O.len hN h) ?_
 intro os Q hos hQ
 conv => cbv
 refine z0m hO ?_
 conv => cbv
 refine ⟨(by (rw [hos]) <;> (subst hO; rfl)),?_⟩
 intro r bs hq
 rw [hQ] at hq
 clear hos hQ h
 obtain ⟨y18,y19,y20,y21,y22,y23,y24,y25,y26,y27,y28,y29,y30,y31,_,⟨rfl,rfl⟩,h⟩ := hq
 conv => cbv
 have hz := z0u h
 have hc8 := hz.1
 replace h := hz.2
 clear hz
 refine z0c hO [.shut,.shut] (d_p43 fu O.len hN h) ?_
 intro os Q hos hQ
 conv => cbv
 refine z0r hO (by subst hO; exact hc8) ?_
 conv => cbv
 refine ⟨(by (rw [hos]) <;> (subst hO; rfl)),?_⟩
 intro r bs hq
 rw [hQ] at hq
 clear hos hQ h
 obtain ⟨y32,_,_,⟨rfl,rfl⟩,h⟩ := hq
 conv => cbv
 refine z0c hO [.shut] (d_p45 fu O.len hN h) ?_
 intro os Q hos hQ
 conv => cbv
 refine z0m hO ?_
 conv => cbv
 refine ⟨(by (rw [hos]) <;> (subst hO; rfl)),?_⟩
 intro r bs hq
 rw [hQ] at hq
 clear hos hQ h
 obtain ⟨y33,y34,y35,y36,y37,y38,y39,y40,y41,y42,y43,y44,y45,y46,_,⟨rfl,rfl⟩,h⟩ := hq
 conv => cbv
 refine z0l hO tiA [6] [] [] (fun tm m => ∃ (j47 : Bool),((tm = frame 0 84 [(6,.c (.v (.bool j47)))] ∧ m = ⟨[],1⟩)) ∧ p12_1 False fu K0 j47) (fun L hL_1 => ?_) ?_
 conv => cbv
 refine br_h hO h (by subst hO; rfl) (fun hc5 h => ?_) (fun hc5 h => ?_)
 conv => cbv
 refine br_t hO hc5 ?_
 conv => cbv
 refine br_t hO hc5 ?_
 conv => cbv
 refine br_h hO h (by subst hO; rfl) (fun hc6 h => ?_) (fun hc6 h => ?_)
 conv => cbv
 refine br_t hO hc6 ?_
 conv => cbv
 refine br_t hO hc6 ?_
 conv => cbv
 refine z0c hO [.shut,.shut] (d_p47 fu O.len hN h) ?_
 intro os Q hos hQ
 conv => cbv
 refine z0m hO ?_
 conv => cbv
 refine ⟨(by (rw [hos]) <;> (subst hO; rfl)),?_⟩
 intro r bs hq
 rw [hQ] at hq
 clear hos hQ h
 obtain ⟨y48,_,_,⟨rfl,rfl⟩,h⟩ := hq
 conv => cbv
 refine br_t hO hc6 ?_
 conv => cbv
 refine br_h hO h (by subst hO; rfl) (fun hc7 h => ?_) (fun hc7 h => ?_)
 conv => cbv
 refine br_t hO hc7 ?_
 conv => cbv
 refine br_t hO hc7 ?_
 conv => cbv
 refine br_t hO hc7 ?_
 conv => cbv
 refine br_t hO hc7 ?_
 conv => cbv
 refine z0c hO [.shut,.shut] (d_p47 fu O.len hN h) ?_
 intro os Q hos hQ
 conv => cbv
 refine ⟨(by (rw [hos]) <;> (subst hO; rfl)),?_⟩
 intro r bs hq
 rw [hQ] at hq
 clear hos hQ h
 obtain ⟨y49,_,_,⟨rfl,rfl⟩,h⟩ := hq
 conv => cbv
 refine br_t hO hc7 ?_
 conv => cbv
 exact hL_1 _ _ ⟨y49,⟨(by (conv => lhs; cbv) <;> (subst hO; rfl)),(by (conv => lhs; cbv) <;> (subst hO; rfl))⟩,h⟩
 conv => cbv
 refine br_f hO hc7 ?_
 conv => cbv
 refine br_f hO hc7 ?_
 conv => cbv
 refine br_f hO hc7 ?_
 conv => cbv
 refine br_f hO hc7 ?_
 conv => cbv
 refine br_f hO hc7 ?_
 conv => cbv
 exact hL_1 _ _ ⟨false,⟨(by (conv => lhs; cbv) <;> (subst hO; rfl)),(by (conv => lhs; cbv) <;> (subst hO; rfl))⟩,h⟩
 conv => cbv
 refine br_f hO hc6 ?_
 conv => cbv
 refine br_f hO hc6 ?_
 conv => cbv
 refine br_f hO hc6 ?_
 conv => cbv
 refine br_f hO rfl ?_
 conv => cbv
 refine br_f hO rfl ?_
 conv => cbv
 refine br_f hO rfl ?_
 conv => cbv
 refine br_f hO rfl ?_
 conv => cbv
 refine br_f hO rfl ?_
 conv => cbv
 refine br_f hO rfl ?_
 conv => cbv
 exact hL_1 _ _ ⟨false,⟨(by (conv => lhs; cbv) <;> (subst hO; rfl)),(by (conv => lhs; cbv) <;> (subst hO; rfl))⟩,h⟩
 conv => cbv
 refine br_f hO hc5 ?_
 conv => cbv
 refine br_f hO hc5 ?_
 conv => cbv
 refine br_f hO rfl ?_
 conv => cbv
 refine br_f hO rfl ?_
 conv => cbv
 refine br_f hO rfl ?_
 conv => cbv
 refine br_f hO rfl ?_
 conv => cbv
 refine br_f hO rfl ?_
 conv => cbv
 refine br_f hO rfl ?_
 conv => cbv
 refine br_f hO rfl ?_
 conv => cbv
 refine br_f hO rfl ?_
 conv => cbv
 refine br_f hO rfl ?_
 conv => cbv
 refine br_f hO rfl ?_
 conv => cbv
 exact hL_1 _ _ ⟨false,⟨(by (conv => lhs; cbv) <;> (subst hO; rfl)),(by (conv => lhs; cbv) <;> (subst hO; rfl))⟩,h⟩
 rintro tm m ⟨j47,hs,h⟩
 unfold p12_1 at h
 obtain ⟨rfl,rfl⟩ := hs
 conv => cbv
 rw [hQ]
 exact ⟨j47,_,_,_,⟨(by subst hO; rfl),(by subst hO; rfl)⟩,h⟩)
end Go.Proofs.Ythncmjlcmlmnmaa
namespace Go.Proofs.Ythncmjlcmlmnmaa.V
open Go Go.RowKit Go.ChangeShapes
def w3o (P : Program) : Nat → List Field → Nat → Bool
 | o, [], e => o == e
 | o, f :: fs, e => f.offset == o && w3o P (o + P.cellsOf f.type) fs e
def k0o (P : Program) (l : List TypeId) : Bool := l.all fun t => match P.underlying t with
 | some .bool | some (.int _) | some .string => true
 | some (.slice e) => l.contains e && decide (0 < P.cellsOf e)
 | some (.struct fs) => fs.toList.all (fun f => l.contains f.type) && w3o P 0 fs.toList (P.cellsOf t)
 | _ => false
def ShpL (shp : TypeId → List CV → Prop) : List TypeId → List CV → Prop
 | [], ys => ys = []
 | t :: ts, ys => ∃ a b, ys = a ++ b ∧ shp t a ∧ ShpL shp ts b
def Shp (P : Program) : Nat → TypeId → List CV → Prop
 | 0, _, _ => False
 | n + 1, t, ys => match P.underlying t with
  | some .bool => ∃ b, ys = [.v (.bool b)]
  | some (.int k) => ∃ z, ys = [.v (.int k z)] ∧ (Lit.int k z).wf = true
  | some .string => ∃ s : ByteArray, ys = [.v (.string s)] ∧ s.size ≤ maxLen
  | some (.slice e) => ∃ es : List (List CV), ys = [.sl (P.cellsOf e) es none] ∧ es.length ≤ maxLen ∧ ∀ r ∈ es, Shp P n e r
  | some (.struct fs) => ShpL (Shp P n) (fs.toList.map (·.type)) ys
  | _ => False
section
variable {H : Type} {enc : TypeId × Value → H} {P : Program} {w : World} {base : Nat} {spare : Nat → Bool} {held : Bool}
def RowR (w : World) (ys : List CV) (cs : List Value) : Prop := ys.length = cs.length ∧ ∀ (i : Nat) y u, ys[i]? = some y → cs[i]? = some u → RelC (allS w) w y u
theorem RowR.append {w : World} {a b : List CV} {c d : List Value} (h : RowR w a c) (k : RowR w b d) : RowR w (a ++ b) (c ++ d) := by
 refine ⟨by simp [h.1, k.1], fun i y u hy hu => ?_⟩
 rw [List.getElem?_append] at hy hu
 rw [h.1] at hy
 split at hy
 ·rename_i hi; rw [if_pos hi] at hu; exact h.2 i y u hy hu
 ·rename_i hi; rw [if_neg hi] at hu; exact k.2 _ y u hy hu
theorem k0r {w : World} {a : Addr} {v : Value} (h : w.cell? a = some v) : a.block < w.heap.size ∧ a.spot = none := by
 unfold World.cell? at h
 split at h
 ·rename_i hh
  refine ⟨(Array.getElem?_eq_some_iff.1 hh).1, ?_⟩
  split at h
  ·simp at h
  ·rename_i hs; simpa using hs
 ·simp at h
theorem w0j {n : Nat} (cs : List Value) : ∀ (fs : List Field) (o : Nat), w3o P o fs cs.length = true →
  (∀ f ∈ fs, ∃ ys, RowR w ys ((cs.drop f.offset).take (P.cellsOf f.type)) ∧ Shp P n f.type ys) → ∃ ys, RowR w ys (cs.drop o) ∧ ShpL (Shp P n) (fs.map (·.type)) ys
 | [], o, hc, _ => by
  simp [w3o] at hc
  exact ⟨[], ⟨by simp [hc], by simp⟩, rfl⟩
 | f :: fs, o, hc, hf => by
  simp only [w3o, Bool.and_eq_true, beq_iff_eq] at hc
  obtain ⟨ho, hc⟩ := hc
  obtain ⟨a, ha, sa⟩ := hf f (by simp)
  obtain ⟨b, hb, sb⟩ := w0j cs fs _ hc (fun g hg => hf g (by simp [hg]))
  rw [ho] at ha
  refine ⟨a ++ b, ?_, a, b, rfl, sa, sb⟩
  have := ha.append hb
  rwa [← List.drop_drop, List.take_append_drop] at this
theorem w4a {l : List TypeId} (hl : k0o P l = true) : ∀ (n : Nat) (t : TypeId) (cs : List Value) (x : DataW H × List MemPlace), t ∈ l → DataW.trod enc P w base spare held n t cs = some x →
  ∃ ys, RowR w ys cs ∧ Shp P n t ys := by
 intro n
 induction n with
 | zero => intro t cs x _ h; simp [DataW.trod] at h
 | succ n ih =>
  intro t cs x ht h
  have hc := List.all_eq_true.1 hl t ht
  split at hc
  ·rename_i hu
   obtain ⟨b, rfl, rfl⟩ := DataW.trod_bool hu h
   refine ⟨[.v (.bool b)], ⟨rfl, fun i y u hy hu => ?_⟩, ?_⟩
   ·match i with
    | 0 => simp at hy hu; subst hy; subst hu; exact .v _ rfl
    | i + 1 => simp at hy
   ·simp [Shp, hu]
  ·rename_i k hu
   obtain ⟨z, rfl, rfl, hw⟩ := DataW.trod_int hu h
   refine ⟨[.v (.int k z)], ⟨rfl, fun i y u hy hu => ?_⟩, ?_⟩
   ·match i with
    | 0 => simp at hy hu; subst hy; subst hu; exact .v _ rfl
    | i + 1 => simp at hy
   ·simp [Shp, hu, hw]
  ·rename_i hu
   obtain ⟨s, rfl, rfl, hw⟩ := DataW.trod_string hu h
   refine ⟨[.v (.string s)], ⟨rfl, fun i y u hy hu => ?_⟩, ?_⟩
   ·match i with
    | 0 => simp at hy hu; subst hy; subst hu; exact .v _ rfl
    | i + 1 => simp at hy
   ·simp [Shp, hu, hw]
  ·rename_i e hu
   simp only [Bool.and_eq_true, List.contains_iff_mem, decide_eq_true_eq] at hc
   rcases DataW.trod_slice hu h with ⟨rfl, rfl⟩ | ⟨a, len, cap, elems, rest, n', hn, rfl, rfl, hb, hle, hm, hlen, hel, _, _⟩
   ·refine ⟨[.sl (P.cellsOf e) [] none], ⟨rfl, fun i y u hy hu' => ?_⟩, ?_⟩
    ·match i with
     | 0 => simp at hy hu'; subst hy; subst hu'; exact .sl _ [] none none 0 0 0 (fun _ => .nilIface) (by simp) (by simp) (by simp) (by simp) (by simp) (by simp) (by simp)
     | i + 1 => simp at hy
    ·simp [Shp, hu]
   ·injection hn with hn; subst hn
    have each : ∀ i, i < len → ∃ r cs', World.cells? w base (a.add (i * P.cellsOf e)) (P.cellsOf e) = some cs' ∧ RowR w r cs' ∧ Shp P n e r := fun i hi => by
     have h1 := hel i hi
     rw [List.getElem?_eq_getElem (by omega), Option.bind_eq_some_iff] at h1
     obtain ⟨cs', hcs, hy⟩ := h1
     obtain ⟨r, hr, hs⟩ := ih e cs' _ hc.1 hy
     exact ⟨r, cs', hcs, hr, hs⟩
    have hex : ∃ g : Nat → List CV, ∀ i, i < len → ∃ cs', World.cells? w base (a.add (i * P.cellsOf e)) (P.cellsOf e) = some cs' ∧ RowR w (g i) cs' ∧ Shp P n e (g i) := by
     refine ⟨fun i => if hi : i < len then (each i hi).choose else [], fun i hi => ?_⟩
     obtain ⟨cs', h1⟩ := (each i hi).choose_spec
     refine ⟨cs', ?_⟩
     simp only [hi, dif_pos]
     exact h1
    obtain ⟨g, hg⟩ := hex
    have hget : ∀ (i : Nat) r, ((List.range len).map g)[i]? = some r → i < len ∧ r = g i := fun i r hr => by
     have hi : i < len := by have := (List.getElem?_eq_some_iff.1 hr).1; simpa using this
     refine ⟨hi, ?_⟩
     simpa [List.getElem?_map, List.getElem?_range hi] using hr.symm
    have hrl : ∀ i, i < len → (g i).length = P.cellsOf e := fun i hi => by
     obtain ⟨cs', h1, h2, _⟩ := hg i hi
     rw [h2.1, (World.cells?_some h1).2.1]
    have hcell : ∀ i j, i < len → j < P.cellsOf e → ∃ u, w.cell? ((a.add (i * P.cellsOf e)).add j) = some u ∧ ∃ y, (g i)[j]? = some y ∧ RelC (allS w) w y u := fun i j hi hj => by
     obtain ⟨cs', h1, h2, _⟩ := hg i hi
     obtain ⟨_, h3, h4⟩ := World.cells?_some h1
     obtain ⟨y, hy⟩ : ∃ y, (g i)[j]? = some y := ⟨_, List.getElem?_eq_getElem (by rw [hrl i hi]; exact hj)⟩
     obtain ⟨v, hv⟩ : ∃ v, cs'[j]? = some v := ⟨_, List.getElem?_eq_getElem (by rw [h3]; exact hj)⟩
     exact ⟨_, (h4 j hj).trans hv, _, hy, h2.2 j _ _ hy hv⟩
    have hspot : 0 < len → a.spot = none := fun h0 => by
     obtain ⟨u, hu', _⟩ := hcell 0 0 h0 hc.2
     simpa [Addr.add] using (k0r hu').2
    have hadd : 0 < len → ∀ i j, (a.add (i * P.cellsOf e)).add j = ⟨a.block, a.off + (i * P.cellsOf e + j), none⟩ := fun h0 i j => by
     have hs := hspot h0
     obtain ⟨ab, ao, asp⟩ := a
     simp only at hs; subst hs
     unfold Addr.add
     by_cases h1 : i * P.cellsOf e = 0 <;> by_cases h2 : j = 0 <;> simp [h1, h2] <;> omega
    have hdiv : ∀ k, k < len * P.cellsOf e → k / P.cellsOf e < len ∧ k % P.cellsOf e < P.cellsOf e ∧ k / P.cellsOf e * P.cellsOf e + k % P.cellsOf e = k := fun k hk =>
     ⟨(Nat.div_lt_iff_lt_mul hc.2).2 hk, Nat.mod_lt _ hc.2, by rw [Nat.mul_comm]; exact Nat.div_add_mod _ _⟩
    have hall : ∀ k, k < len * P.cellsOf e → ∃ u, z0p w a.block (a.off + k) = some u := fun k hk => by
     obtain ⟨h1, h2, h3⟩ := hdiv k hk
     obtain ⟨u, h4, _⟩ := hcell _ _ h1 h2
     rw [hadd (Nat.lt_of_le_of_lt (Nat.zero_le _) h1), h3] at h4
     exact ⟨u, h4⟩
    refine ⟨[.sl (P.cellsOf e) ((List.range len).map g) none], ⟨rfl, fun i y u hy hu' => ?_⟩, ?_⟩
    ·match i with
     | i + 1 => simp at hy
     | 0 =>
      simp only [List.getElem?_cons_zero, Option.some.injEq] at hy hu'
      subst hy; subst hu'
      have hlen' : ((List.range len).map g).length = len := by simp
      have hgoal : RelC (allS w) w (.sl (P.cellsOf e) ((List.range len).map g) none) (.slice (some a) ((List.range len).map g).length cap) := by
       refine .sl _ _ none (some a) cap a.block a.off (fun k => (z0p w a.block (a.off + k)).getD .nilIface) (by rw [hlen']; exact hle) (by simp) ?_ ?_ ?_ ?_ ?_
       ·intro hne
        have h0 : 0 < len := by
         cases len with
         | zero => simp at hne
         | succ _ => omega
        refine ⟨?_, hc.2⟩
        have := hspot h0
        obtain ⟨ab, ao, asp⟩ := a
        simp only at this; subst this; rfl
       ·intro i r hr
        simp only [Option.getD_none, List.append_nil] at hr
        obtain ⟨hi, rfl⟩ := hget i r hr
        exact hrl i hi
       ·intro k hk
        simp only [Option.getD_none, List.append_nil, hlen'] at hk
        obtain ⟨u, hu'⟩ := hall k hk
        exact (k0r hu').1
       ·intro k hk
        simp only [Option.getD_none, List.append_nil, hlen'] at hk
        obtain ⟨u, hu'⟩ := hall k hk
        show z0p w a.block (a.off + k) = some ((z0p w a.block (a.off + k)).getD .nilIface)
        rw [hu']; rfl
       ·intro i j r y hr hy
        simp only [Option.getD_none, List.append_nil] at hr
        obtain ⟨hi, rfl⟩ := hget i r hr
        have hj : j < P.cellsOf e := by rw [← hrl i hi]; exact (List.getElem?_eq_some_iff.1 hy).1
        obtain ⟨u, h4, y', h5, h6⟩ := hcell i j hi hj
        rw [hy] at h5; injection h5 with h5; subst h5
        rw [hadd (by omega)] at h4
        show RelC (allS w) w y ((z0p w a.block (a.off + (i * P.cellsOf e + j))).getD .nilIface)
        rw [show z0p w a.block (a.off + (i * P.cellsOf e + j)) = some u from h4]
        exact h6
      rwa [hlen'] at hgoal
    ·simp only [Shp, hu]
     refine ⟨_, rfl, by simp; omega, fun r hr => ?_⟩
     obtain ⟨i, hi, rfl⟩ := List.mem_map.1 hr
     obtain ⟨_, _, _, h5⟩ := hg i (List.mem_range.1 hi)
     exact h5
  ·rename_i fs hu
   simp only [Bool.and_eq_true, List.all_eq_true, List.contains_iff_mem] at hc
   obtain ⟨xs, n', hn, rfl, hlen, hxl, hf⟩ := DataW.trod_struct hu h
   injection hn with hn; subst hn
   obtain ⟨ys, h1, h2⟩ := w0j (P := P) (w := w) (n := n) cs fs.toList 0 (by rw [hlen]; exact hc.2) (fun f hfm => by
    obtain ⟨i, hi⟩ := List.getElem?_of_mem hfm
    have h3 := hf i f (by simpa using hi)
    have hi' : i < xs.length := by rw [hxl]; simpa using (List.getElem?_eq_some_iff.1 hi).1
    rw [List.getElem?_eq_getElem hi'] at h3
    exact ih f.type _ _ (hc.1 f hfm) h3)
   refine ⟨ys, by simpa using h1, ?_⟩
   simp only [Shp, hu]
   exact h2
  ·simp at hc
theorem k1k {l : List TypeId} (hl : k0o P l = true) {t : TypeId} (ht : t ∈ l) {v : Value} {d : DataW H} {ps : List MemPlace} (h : DataW.Trod enc P w base spare held t v d ps) (h1 : v.cells = #[v]) :
  ∃ n y, RelC (allS w) w y v ∧ Shp P n t [y] := by
 obtain ⟨n, h⟩ := h
 rw [h1] at h
 obtain ⟨ys, hr, hs⟩ := w4a hl n t _ _ ht h
 have hlen := hr.1
 match ys, hlen with
 | [y], _ => exact ⟨n, y, hr.2 0 y v rfl rfl, hs⟩
end
theorem Ext.below {w w' : World} (h : Ext (fun _ _ => False) w w') : Below w.heap.size w w' := ⟨h.os, h.tape, h.output, h.size, fun k hk => h.obj k hk (fun _ q => q)⟩
end Go.Proofs.Ythncmjlcmlmnmaa.V
namespace Go.Proofs.Ythncmjlcmlmnmaa
open Go V
open Go.ChangeShapes Go.WideShapes Go.ChangeAt Go.RowKit
theorem Try.own : ownKnob Try.prog.godebug = none := by kernel_rfl
theorem Try.laidOut : laidOutB Try.prog = true := by kernel_rfl
set_option maxRecDepth 100000
theorem u8_of {n : Int} (h : (Lit.int .u8 n).wf = true) : 0 ≤ n ∧ n ≤ 255 := by
 have h' : (decide (IntKind.u8.min ≤ n) && decide (n ≤ IntKind.u8.max)) = true := h
 have h1 : IntKind.u8.min = 0 := by decide
 have h2 : IntKind.u8.max = 255 := by decide
 rw [Bool.and_eq_true, h1, h2] at h'
 exact ⟨of_decide_eq_true h'.1, of_decide_eq_true h'.2⟩
theorem w6o : ∀ (es : List (List CV)), (∀ r ∈ es, ∃ z, r = [.v (.int .u8 z)] ∧ (Lit.int .u8 z).wf = true) → ∃ bs : List UInt8, es = encB bs
 | [], _ => ⟨[], rfl⟩
 | r :: es, h => by
  obtain ⟨z, hz, hw⟩ := h r (by simp)
  obtain ⟨bs, hbs⟩ := w6o es (fun r hr => h r (by simp [hr]))
  have h1 := u8_of hw
  refine ⟨UInt8.ofNat z.toNat :: bs, ?_⟩
  rw [hz, hbs, z9c]
  have : (UInt8.ofNat z.toNat).toNat = z.toNat := by simp; omega
  rw [this, show ((z.toNat : Nat) : Int) = z by omega]
section
variable {H : Type} {enc : TypeId × Value → H} {w : World} {base : Nat} {spare : Nat → Bool} {held : Bool}
theorem w4z {t e : TypeId} {v : Value} {r : Reach} (hu : Try.prog.underlying t = some (.slice e)) (hv : Value.okWide Try.prog w r base t v) : v.cells = #[v] := by
 unfold Value.okWide at hv
 rw [hu] at hv
 unfold Cell.okWide at hv
 rw [hu] at hv
 unfold Cell.ok at hv
 rw [hu] at hv
 cases v <;> first | rfl | exact hv.elim
theorem w3u {v : Value} {r : Reach} {d : DataW H} {ps : List MemPlace} {base' : Nat} (hv : Value.okWide Try.prog w r base' 24 v) (h : DataW.Trod enc Try.prog w base spare held 24 v d ps) :
  ∃ bs : List UInt8, RelC (allS w) w (.sl 1 (encB bs) none) v ∧ bs.length ≤ maxLen := by
 have hu : Try.prog.underlying 24 = some (.slice 5) := by kernel_rfl
 have hu8 : Try.prog.underlying 5 = some (.int .u8) := by kernel_rfl
 have hc1 : Try.prog.cellsOf 5 = 1 := by kernel_rfl
 obtain ⟨n, y, hr, hs⟩ := k1k (l := [5, 24]) (by kernel_rfl) (by simp) h (w4z hu hv)
 cases n with
 | zero => exact hs.elim
 | succ n =>
  simp only [Shp, hu] at hs
  obtain ⟨es, he, hl, hall⟩ := hs
  injection he with he _
  subst he
  obtain ⟨bs, rfl⟩ := w6o es (fun r hr => by
   have := hall r hr
   cases n with
   | zero => exact this.elim
   | succ n => simp only [Shp, hu8] at this; exact this)
  rw [hc1] at hr
  exact ⟨bs, hr, by simpa using hl⟩
end
end Go.Proofs.Ythncmjlcmlmnmaa
