/- The Go functions are followed by those without memory. Printed by gen.py. Conditions: none. -/
import Derived.Test.YthncmjlcmlmnmaaRT5
import Derived.Test.YthncmjlcmlmnmaaRT9
import Derived.Test.YthncmjlcmlmnmaaRT6
namespace Go.Proofs.Ythncmjlcmlmnmaa
open Go V
set_option maxRecDepth 100000
set_option maxHeartbeats 4000000
def D_p122b (fu : Nat) : Prop := ∀ {K0 : Bool → Prop} (L : EL → Nat) (_ : L = List.length) {x0 x1 : Int} {x2 : EL} {x3 x4 : Int} {x5 : EL} (_ : p122b False fu K0 x0 x1 x2 x3 x4 x5),Den Try.prog G0 122 [.agg [.c (.v (.int .i64 x0)),.c (.v (.int .i64 x1)),.c (.sl 3 x2 none)],.agg [.c (.v (.int .i64 x3)),.c (.v (.int .i64 x4)),.c (.sl 3 x5 none)]] (fun r bs => (∃ (y0 : Bool) (o0 o1 : OV),(r = .c (.v (.bool y0)) ∧ bs = [o0,o1]) ∧ K0 y0))
def D_p121 (fu : Nat) : Prop := ∀ {K0 : Bool → Prop} (L : EL → Nat) (_ : L = List.length) {x0 x1 : EL} (_ : p121 False fu K0 x0 x1),Den Try.prog G0 121 [.c (.sl 3 x0 none),.c (.sl 3 x1 none),.c (.v (.func (.func 122) #[] #[]))] (fun r bs => (∃ (y0 : Bool) (o0 o1 o2 : OV),(r = .c (.v (.bool y0)) ∧ bs = [o0,o1,o2]) ∧ K0 y0))
theorem b_p122b (fu : Nat) (ih_p122b : D_p122b fu) (ih_p121 : D_p121 fu) {K0 : Bool → Prop} (L : EL → Nat) (hN : L = List.length) {x0 x1 : Int} {x2 : EL} {x3 x4 : Int} {x5 : EL} (h : p122b_b False fu (p122b False fu) (p121 False fu) K0 x0 x1 x2 x3 x4 x5) : Den Try.prog G0 122 [.agg [.c (.v (.int .i64 x0)),.c (.v (.int .i64 x1)),.c (.sl 3 x2 none)],.agg [.c (.v (.int .i64 x3)),.c (.v (.int .i64 x4)),.c (.sl 3 x5 none)]] (fun r bs => (∃ (y0 : Bool) (o0 o1 : OV),(r = .c (.v (.bool y0)) ∧ bs = [o0,o1]) ∧ K0 y0)) := by
 obtain ⟨O,hO⟩ : ∃ O,O = std 0 T G0 (Den Try.prog G0) := ⟨_,rfl⟩
 have hLO : L = O.len := by rw [hN,hO]; rfl
 subst hLO
 refine den_h hO tiA mixed tabOk (fn := Try.f122) (sh := true) (by kernel_rfl) rfl rfl rfl rfl ?_
 intro Q hQ
 unfold p122b_b at h
 conv => cbv
 refine z0l hO tiA [4] [] [] (fun tm m => ∃ (j1 : Bool),((tm = frame 0 24 [(4,.c (.v (.bool j1)))] ∧ m = ⟨[],1⟩)) ∧ p122b_1 False fu (p122b False fu) (p121 False fu) K0 j1) (fun L hL_1 => ?_) ?_
 conv => cbv
 refine br_h hO h (by subst hO; rfl) (fun hc1 h => ?_) (fun hc1 h => ?_)
 conv => cbv
 refine br_t hO hc1 ?_
 conv => cbv
 refine br_t hO hc1 ?_
 conv => cbv
 refine br_t hO hc1 ?_
 conv => cbv
 refine br_t hO hc1 ?_
 conv => cbv
 refine br_t hO hc1 ?_
 conv => cbv
 refine br_h hO h (by subst hO; rfl) (fun hc2 h => ?_) (fun hc2 h => ?_)
 conv => cbv
 refine br_t hO hc2 ?_
 conv => cbv
 refine br_t hO hc2 ?_
 conv => cbv
 refine br_t hO hc2 ?_
 conv => cbv
 refine br_t hO hc2 ?_
 conv => cbv
 refine z0c hO [.shut,.shut,.shut] (ih_p121 O.len hN h) ?_
 intro os Q hos hQ
 conv => cbv
 refine ⟨(by (rw [hos]) <;> (subst hO; rfl)),?_⟩
 intro r bs hq
 rw [hQ] at hq
 clear hos hQ h
 obtain ⟨y2,_,_,_,⟨rfl,rfl⟩,h⟩ := hq
 conv => cbv
 refine br_t hO hc2 ?_
 conv => cbv
 exact hL_1 _ _ ⟨y2,⟨(by (conv => lhs; cbv) <;> (subst hO; rfl)),(by (conv => lhs; cbv) <;> (subst hO; rfl))⟩,h⟩
 conv => cbv
 refine br_f hO hc2 ?_
 conv => cbv
 refine br_f hO hc2 ?_
 conv => cbv
 refine br_f hO hc2 ?_
 conv => cbv
 refine br_f hO hc2 ?_
 conv => cbv
 refine br_f hO hc2 ?_
 conv => cbv
 exact hL_1 _ _ ⟨false,⟨(by (conv => lhs; cbv) <;> (subst hO; rfl)),(by (conv => lhs; cbv) <;> (subst hO; rfl))⟩,h⟩
 conv => cbv
 refine br_f hO hc1 ?_
 conv => cbv
 refine br_f hO hc1 ?_
 conv => cbv
 refine br_f hO hc1 ?_
 conv => cbv
 refine br_f hO hc1 ?_
 conv => cbv
 refine br_f hO hc1 ?_
 conv => cbv
 refine br_f hO rfl ?_
 conv => cbv
 refine br_f hO rfl ?_
 conv => cbv
 refine br_f hO rfl ?_
 conv => cbv
 refine br_f hO rfl ?_
 conv => cbv
 refine br_f hO rfl ?_
 conv => cbv
 refine br_f hO rfl ?_
 conv => cbv
 exact hL_1 _ _ ⟨false,⟨(by (conv => lhs; cbv) <;> (subst hO; rfl)),(by (conv => lhs; cbv) <;> (subst hO; rfl))⟩,h⟩
 rintro tm m ⟨j1,hs,h⟩
 unfold p122b_1 at h
 obtain ⟨rfl,rfl⟩ := hs
 conv => cbv
 rw [hQ]
 exact ⟨j1,_,_,⟨(by subst hO; rfl),(by subst hO; rfl)⟩,h⟩
theorem b_p121 (fu : Nat) (ih_p122b : D_p122b fu) (ih_p121 : D_p121 fu) {K0 : Bool → Prop} (L : EL → Nat) (hN : L = List.length) {x0 x1 : EL} (h : p121_b False fu (p122b False fu) (p121 False fu) K0 x0 x1) : Den Try.prog G0 121 [.c (.sl 3 x0 none),.c (.sl 3 x1 none),.c (.v (.func (.func 122) #[] #[]))] (fun r bs => (∃ (y0 : Bool) (o0 o1 o2 : OV),(r = .c (.v (.bool y0)) ∧ bs = [o0,o1,o2]) ∧ K0 y0)) := by
 obtain ⟨O,hO⟩ : ∃ O,O = std 0 T G0 (Den Try.prog G0) := ⟨_,rfl⟩
 have hLO : L = O.len := by rw [hN,hO]; rfl
 subst hLO
 refine den_h hO tiA mixed tabOk (fn := Try.f121) (sh := true) (by kernel_rfl) rfl rfl rfl rfl ?_
 intro Q hQ
 unfold p121_b at h
 conv => cbv
 refine br_h hO h (by subst hO; rfl) (fun hc1 h => ?_) (fun hc1 h => ?_)
 conv => cbv
 rw [hQ]
 exact ⟨false,_,_,_,⟨(by subst hO; rfl),(by subst hO; rfl)⟩,h⟩
 conv => cbv
 refine z0b hO ?_
 conv => cbv
 refine z0s hO tiA [1,2,15,16,17] [] [] (fun (n : Nat) tm m => ∃ (z1 : Int) (z2 : Int),((tm = frame 0 32 [(1,.c (.sl 3 x1 none)),(2,.c (.v (.func (.func 122) #[] #[]))),(15,.c (.sl 3 x0 none)),(16,.c (.v (.int .i64 z1))),(17,.c (.v (.int .i64 z2)))] ∧ m = ⟨[],1⟩)) ∧ p121_1L False fu (p122b False fu) (p121 False fu) K0 x0 x1 n z1 z2) (fun n => n) fu ⟨((x0.length : Nat) : Int),0,⟨(by (conv => lhs; cbv) <;> (subst hO; rfl)),(by (conv => lhs; cbv) <;> (subst hO; rfl))⟩,h⟩ ?_
 rintro n1 tm m L ⟨z1,z2,hs,h⟩ hLn1
 (cases n1 with
 | zero => rw [p121_1L] at h; exact h.elim
 | succ n1 =>
 rw [p121_1L] at h
 unfold p121_1 at h
 obtain ⟨rfl,rfl⟩ := hs
 conv => cbv
 refine br_h hO h (by subst hO; rfl) (fun hc2 h => ?_) (fun hc2 h => ?_)
 conv => cbv
 refine z0b hO ?_
 conv => cbv
 refine and_h h (fun g => (by subst hO; exact g)) (fun h => ?_)
 refine and_h h (fun g => (by subst hO; exact g)) (fun h => ?_)
 obtain ⟨c3,c4,c5,hr,h⟩ := z0k h
 refine z0o hO _ (by subst hO; exact hr) ?_
 clear hr
 conv => cbv
 refine and_h h (fun g => (by subst hO; exact g)) (fun h => ?_)
 refine and_h h (fun g => (by subst hO; exact g)) (fun h => ?_)
 obtain ⟨c6,c7,c8,hr,h⟩ := z0k h
 refine z0o hO _ (by subst hO; exact hr) ?_
 clear hr
 conv => cbv
 refine z0c hO [.shut,.shut] (ih_p122b O.len hN h) ?_
 intro os Q hos hQ
 conv => cbv
 refine ⟨(by (rw [hos]) <;> (subst hO; rfl)),?_⟩
 intro r bs hq
 rw [hQ] at hq
 clear hos hQ h
 obtain ⟨y9,_,_,⟨rfl,rfl⟩,h⟩ := hq
 conv => cbv
 refine br_h hO h (by subst hO; rfl) (fun hc3 h => ?_) (fun hc3 h => ?_)
 conv => cbv
 rw [hQ]
 exact ⟨false,_,_,_,⟨(by subst hO; rfl),(by subst hO; rfl)⟩,h⟩
 conv => cbv
 refine z0b hO ?_
 conv => cbv
 exact hLn1 n1 _ _ (Nat.lt_succ_self n1) ⟨z1,z0d .add .i64 z2 1,⟨(by (conv => lhs; cbv) <;> (subst hO; rfl)),(by (conv => lhs; cbv) <;> (subst hO; rfl))⟩,h⟩
 conv => cbv
 rw [hQ]
 exact ⟨true,_,_,_,⟨(by subst hO; rfl),(by subst hO; rfl)⟩,h⟩)
theorem dd_p122b (fu : Nat) : D_p122b fu ∧ D_p121 fu := by
 induction fu with
 | zero => exact ⟨(by unfold D_p122b; intros; rename_i h; rw [p122b] at h; exact h.elim),(by unfold D_p121; intros; rename_i h; rw [p121] at h; exact h.elim)⟩
 | succ n ih =>
  obtain ⟨i0,i1⟩ := ih
  exact ⟨(by unfold D_p122b; intro K0 L hN x0 x1 x2 x3 x4 x5 h; exact b_p122b n i0 i1 L hN (by rw [p122b] at h; exact h)),(by unfold D_p121; intro K0 L hN x0 x1 h; exact b_p121 n i0 i1 L hN (by rw [p121] at h; exact h))⟩
theorem d_p121 (fu : Nat) : D_p121 fu := (dd_p122b fu).2
def D_p123b (fu : Nat) : Prop := ∀ {K0 : Bool → Prop} (L : EL → Nat) (_ : L = List.length) {x0 x1 : EL} (_ : p123b False fu K0 x0 x1),Den Try.prog G0 123 [.c (.sl 5 x0 none),.c (.sl 5 x1 none),.c (.v (.func (.func 86) #[] #[]))] (fun r bs => (∃ (y0 : Bool) (o0 o1 o2 : OV),(r = .c (.v (.bool y0)) ∧ bs = [o0,o1,o2]) ∧ K0 y0))
def D_p86 (fu : Nat) : Prop := ∀ {K0 : Bool → Prop} (L : EL → Nat) (_ : L = List.length) {x0 x1 : Int} {x2 : ByteArray} {x3 x4 : EL} {x5 x6 : Int} {x7 : ByteArray} {x8 x9 : EL} (_ : p86 False fu K0 x0 x1 x2 x3 x4 x5 x6 x7 x8 x9),Den Try.prog G0 86 [.agg [.c (.v (.int .i64 x0)),.c (.v (.int .i64 x1)),.c (.v (.string x2)),.c (.sl 3 x3 none),.c (.sl 5 x4 none)],.agg [.c (.v (.int .i64 x5)),.c (.v (.int .i64 x6)),.c (.v (.string x7)),.c (.sl 3 x8 none),.c (.sl 5 x9 none)]] (fun r bs => (∃ (y0 : Bool) (o0 o1 : OV),(r = .c (.v (.bool y0)) ∧ bs = [o0,o1]) ∧ K0 y0))
theorem b_p123b (fu : Nat) (ih_p123b : D_p123b fu) (ih_p86 : D_p86 fu) {K0 : Bool → Prop} (L : EL → Nat) (hN : L = List.length) {x0 x1 : EL} (h : p123b_b False fu (p123b False fu) (p86 False fu) K0 x0 x1) : Den Try.prog G0 123 [.c (.sl 5 x0 none),.c (.sl 5 x1 none),.c (.v (.func (.func 86) #[] #[]))] (fun r bs => (∃ (y0 : Bool) (o0 o1 o2 : OV),(r = .c (.v (.bool y0)) ∧ bs = [o0,o1,o2]) ∧ K0 y0)) := by
 obtain ⟨O,hO⟩ : ∃ O,O = std 0 T G0 (Den Try.prog G0) := ⟨_,rfl⟩
 have hLO : L = O.len := by rw [hN,hO]; rfl
 subst hLO
 refine den_h hO tiA mixed tabOk (fn := Try.f123) (sh := true) (by kernel_rfl) rfl rfl rfl rfl ?_
 intro Q hQ
 unfold p123b_b at h
 conv => cbv
 refine br_h hO h (by subst hO; rfl) (fun hc1 h => ?_) (fun hc1 h => ?_)
 conv => cbv
 rw [hQ]
 exact ⟨false,_,_,_,⟨(by subst hO; rfl),(by subst hO; rfl)⟩,h⟩
 conv => cbv
 refine z0b hO ?_
 conv => cbv
 refine z0s hO tiA [1,2,15,16,17] [] [] (fun (n : Nat) tm m => ∃ (z1 : Int) (z2 : Int),((tm = frame 0 32 [(1,.c (.sl 5 x1 none)),(2,.c (.v (.func (.func 86) #[] #[]))),(15,.c (.sl 5 x0 none)),(16,.c (.v (.int .i64 z1))),(17,.c (.v (.int .i64 z2)))] ∧ m = ⟨[],1⟩)) ∧ p123b_1L False fu (p123b False fu) (p86 False fu) K0 x0 x1 n z1 z2) (fun n => n) fu ⟨((x0.length : Nat) : Int),0,⟨(by (conv => lhs; cbv) <;> (subst hO; rfl)),(by (conv => lhs; cbv) <;> (subst hO; rfl))⟩,h⟩ ?_
 rintro n1 tm m L ⟨z1,z2,hs,h⟩ hLn1
 (cases n1 with
 | zero => rw [p123b_1L] at h; exact h.elim
 | succ n1 =>
 rw [p123b_1L] at h
 unfold p123b_1 at h
 obtain ⟨rfl,rfl⟩ := hs
 conv => cbv
 refine br_h hO h (by subst hO; rfl) (fun hc2 h => ?_) (fun hc2 h => ?_)
 conv => cbv
 refine z0b hO ?_
 conv => cbv
 refine and_h h (fun g => (by subst hO; exact g)) (fun h => ?_)
 refine and_h h (fun g => (by subst hO; exact g)) (fun h => ?_)
 obtain ⟨c3,c4,c5,c6,c7,hr,h⟩ := z0g h
 refine z0o hO _ (by subst hO; exact hr) ?_
 clear hr
 conv => cbv
 refine and_h h (fun g => (by subst hO; exact g)) (fun h => ?_)
 refine and_h h (fun g => (by subst hO; exact g)) (fun h => ?_)
 obtain ⟨c8,c9,c10,c11,c12,hr,h⟩ := z0g h
 refine z0o hO _ (by subst hO; exact hr) ?_
 clear hr
 conv => cbv
 refine z0c hO [.shut,.shut] (ih_p86 O.len hN h) ?_
 intro os Q hos hQ
 conv => cbv
 refine ⟨(by (rw [hos]) <;> (subst hO; rfl)),?_⟩
 intro r bs hq
 rw [hQ] at hq
 clear hos hQ h
 obtain ⟨y13,_,_,⟨rfl,rfl⟩,h⟩ := hq
 conv => cbv
 refine br_h hO h (by subst hO; rfl) (fun hc3 h => ?_) (fun hc3 h => ?_)
 conv => cbv
 rw [hQ]
 exact ⟨false,_,_,_,⟨(by subst hO; rfl),(by subst hO; rfl)⟩,h⟩
 conv => cbv
 refine z0b hO ?_
 conv => cbv
 exact hLn1 n1 _ _ (Nat.lt_succ_self n1) ⟨z1,z0d .add .i64 z2 1,⟨(by (conv => lhs; cbv) <;> (subst hO; rfl)),(by (conv => lhs; cbv) <;> (subst hO; rfl))⟩,h⟩
 conv => cbv
 rw [hQ]
 exact ⟨true,_,_,_,⟨(by subst hO; rfl),(by subst hO; rfl)⟩,h⟩)
theorem b_p86 (fu : Nat) (ih_p123b : D_p123b fu) (ih_p86 : D_p86 fu) {K0 : Bool → Prop} (L : EL → Nat) (hN : L = List.length) {x0 x1 : Int} {x2 : ByteArray} {x3 x4 : EL} {x5 x6 : Int} {x7 : ByteArray} {x8 x9 : EL} (h : p86_b False fu (p123b False fu) (p86 False fu) K0 x0 x1 x2 x3 x4 x5 x6 x7 x8 x9) : Den Try.prog G0 86 [.agg [.c (.v (.int .i64 x0)),.c (.v (.int .i64 x1)),.c (.v (.string x2)),.c (.sl 3 x3 none),.c (.sl 5 x4 none)],.agg [.c (.v (.int .i64 x5)),.c (.v (.int .i64 x6)),.c (.v (.string x7)),.c (.sl 3 x8 none),.c (.sl 5 x9 none)]] (fun r bs => (∃ (y0 : Bool) (o0 o1 : OV),(r = .c (.v (.bool y0)) ∧ bs = [o0,o1]) ∧ K0 y0)) := by
 obtain ⟨O,hO⟩ : ∃ O,O = std 0 T G0 (Den Try.prog G0) := ⟨_,rfl⟩
 have hLO : L = O.len := by rw [hN,hO]; rfl
 subst hLO
 refine den_h hO tiA mixed tabOk (fn := Try.f86) (sh := true) (by kernel_rfl) rfl rfl rfl rfl ?_
 intro Q hQ
 unfold p86_b at h
 conv => cbv
 refine z0l hO tiA [4] [] [] (fun tm m => ∃ (j1 : Bool),((tm = frame 0 38 [(4,.c (.v (.bool j1)))] ∧ m = ⟨[],1⟩)) ∧ p86_1 False fu (p123b False fu) (p86 False fu) K0 j1) (fun L hL_1 => ?_) ?_
 conv => cbv
 refine br_h hO h (by subst hO; rfl) (fun hc1 h => ?_) (fun hc1 h => ?_)
 conv => cbv
 refine br_t hO hc1 ?_
 conv => cbv
 refine br_t hO hc1 ?_
 conv => cbv
 refine br_t hO hc1 ?_
 conv => cbv
 refine br_t hO hc1 ?_
 conv => cbv
 refine br_t hO hc1 ?_
 conv => cbv
 refine br_h hO h (by subst hO; rfl) (fun hc2 h => ?_) (fun hc2 h => ?_)
 conv => cbv
 refine br_t hO hc2 ?_
 conv => cbv
 refine br_t hO hc2 ?_
 conv => cbv
 refine br_t hO hc2 ?_
 conv => cbv
 refine br_t hO hc2 ?_
 conv => cbv
 refine br_t hO hc2 ?_
 conv => cbv
 refine br_h hO h (by subst hO; rfl) (fun hc3 h => ?_) (fun hc3 h => ?_)
 conv => cbv
 refine br_t hO hc3 ?_
 conv => cbv
 refine br_t hO hc3 ?_
 conv => cbv
 refine br_t hO hc3 ?_
 conv => cbv
 refine br_t hO hc3 ?_
 conv => cbv
 refine z0c hO [.shut,.shut,.shut] (d_p121 fu O.len hN h) ?_
 intro os Q hos hQ
 conv => cbv
 refine ⟨(by (rw [hos]) <;> (subst hO; rfl)),?_⟩
 intro r bs hq
 rw [hQ] at hq
 clear hos hQ h
 obtain ⟨y2,_,_,_,⟨rfl,rfl⟩,h⟩ := hq
 conv => cbv
 refine br_t hO hc3 ?_
 conv => cbv
 refine br_h hO h (by subst hO; rfl) (fun hc4 h => ?_) (fun hc4 h => ?_)
 conv => cbv
 refine br_t hO hc4 ?_
 conv => cbv
 refine br_t hO hc4 ?_
 conv => cbv
 refine br_t hO hc4 ?_
 conv => cbv
 refine br_t hO hc4 ?_
 conv => cbv
 refine z0c hO [.shut,.shut,.shut] (ih_p123b O.len hN h) ?_
 intro os Q hos hQ
 conv => cbv
 refine ⟨(by (rw [hos]) <;> (subst hO; rfl)),?_⟩
 intro r bs hq
 rw [hQ] at hq
 clear hos hQ h
 obtain ⟨y3,_,_,_,⟨rfl,rfl⟩,h⟩ := hq
 conv => cbv
 refine br_t hO hc4 ?_
 conv => cbv
 exact hL_1 _ _ ⟨y3,⟨(by (conv => lhs; cbv) <;> (subst hO; rfl)),(by (conv => lhs; cbv) <;> (subst hO; rfl))⟩,h⟩
 conv => cbv
 refine br_f hO hc4 ?_
 conv => cbv
 refine br_f hO hc4 ?_
 conv => cbv
 refine br_f hO hc4 ?_
 conv => cbv
 refine br_f hO hc4 ?_
 conv => cbv
 refine br_f hO hc4 ?_
 conv => cbv
 exact hL_1 _ _ ⟨false,⟨(by (conv => lhs; cbv) <;> (subst hO; rfl)),(by (conv => lhs; cbv) <;> (subst hO; rfl))⟩,h⟩
 conv => cbv
 refine br_f hO hc3 ?_
 conv => cbv
 refine br_f hO hc3 ?_
 conv => cbv
 refine br_f hO hc3 ?_
 conv => cbv
 refine br_f hO hc3 ?_
 conv => cbv
 refine br_f hO hc3 ?_
 conv => cbv
 refine br_f hO rfl ?_
 conv => cbv
 refine br_f hO rfl ?_
 conv => cbv
 refine br_f hO rfl ?_
 conv => cbv
 refine br_f hO rfl ?_
 conv => cbv
 refine br_f hO rfl ?_
 conv => cbv
 refine br_f hO rfl ?_
 conv => cbv
 exact hL_1 _ _ ⟨false,⟨(by (conv => lhs; cbv) <;> (subst hO; rfl)),(by (conv => lhs; cbv) <;> (subst hO; rfl))⟩,h⟩
 conv => cbv
 refine br_f hO hc2 ?_
 conv => cbv
 refine br_f hO hc2 ?_
 conv => cbv
 refine br_f hO hc2 ?_
 conv => cbv
 refine br_f hO hc2 ?_
 conv => cbv
 refine br_f hO hc2 ?_
 conv => cbv
 refine br_f hO rfl ?_
 conv => cbv
 refine br_f hO rfl ?_
 conv => cbv
 refine br_f hO rfl ?_
 conv => cbv
 refine br_f hO rfl ?_
 conv => cbv
 refine br_f hO rfl ?_
 conv => cbv
 refine br_f hO rfl ?_
 conv => cbv
 refine br_f hO rfl ?_
 conv => cbv
 refine br_f hO rfl ?_
 conv => cbv
 refine br_f hO rfl ?_
 conv => cbv
 refine br_f hO rfl ?_
 conv => cbv
 refine br_f hO rfl ?_
 conv => cbv
 refine br_f hO rfl ?_
 conv => cbv
 exact hL_1 _ _ ⟨false,⟨(by (conv => lhs; cbv) <;> (subst hO; rfl)),(by (conv => lhs; cbv) <;> (subst hO; rfl))⟩,h⟩
 conv => cbv
 refine br_f hO hc1 ?_
 conv => cbv
 refine br_f hO hc1 ?_
 conv => cbv
 refine br_f hO hc1 ?_
 conv => cbv
 refine br_f hO hc1 ?_
 conv => cbv
 refine br_f hO hc1 ?_
 conv => cbv
 refine br_f hO rfl ?_
 conv => cbv
 refine br_f hO rfl ?_
 conv => cbv
 refine br_f hO rfl ?_
 conv => cbv
 refine br_f hO rfl ?_
 conv => cbv
 refine br_f hO rfl ?_
 conv => cbv
 refine br_f hO rfl ?_
 conv => cbv
 refine br_f hO rfl ?_
 conv => cbv
 refine br_f hO rfl ?_
 conv => cbv
 refine br_f hO rfl ?_
 conv => cbv
 refine br_f hO rfl ?_
 conv => cbv
 refine br_f hO rfl ?_
 conv => cbv
 refine br_f hO rfl ?_
 conv => cbv
 refine br_f hO rfl ?_
 conv => cbv
 refine br_f hO rfl ?_
 conv => cbv
 refine br_f hO rfl ?_
 conv => cbv
 refine br_f hO rfl ?_
 conv => cbv
 refine br_f hO rfl ?_
 conv => cbv
 refine br_f hO rfl ?_
 conv => cbv
 exact hL_1 _ _ ⟨false,⟨(by (conv => lhs; cbv) <;> (subst hO; rfl)),(by (conv => lhs; cbv) <;> (subst hO; rfl))⟩,h⟩
 rintro tm m ⟨j1,hs,h⟩
 unfold p86_1 at h
 obtain ⟨rfl,rfl⟩ := hs
 conv => cbv
 rw [hQ]
 exact ⟨j1,_,_,⟨(by subst hO; rfl),(by subst hO; rfl)⟩,h⟩
theorem dd_p123b (fu : Nat) : D_p123b fu ∧ D_p86 fu := by
 induction fu with
 | zero => exact ⟨(by unfold D_p123b; intros; rename_i h; rw [p123b] at h; exact h.elim),(by unfold D_p86; intros; rename_i h; rw [p86] at h; exact h.elim)⟩
 | succ n ih =>
  obtain ⟨i0,i1⟩ := ih
  exact ⟨(by unfold D_p123b; intro K0 L hN x0 x1 h; exact b_p123b n i0 i1 L hN (by rw [p123b] at h; exact h)),(by unfold D_p86; intro K0 L hN x0 x1 x2 x3 x4 x5 x6 x7 x8 x9 h; exact b_p86 n i0 i1 L hN (by rw [p86] at h; exact h))⟩
theorem d_p86 (fu : Nat) : D_p86 fu := (dd_p123b fu).2
theorem d_p45 (fu : Nat) {K0 : Int → Int → Int → Int → Int → Bool → Int → Int → ByteArray → EL → EL → Int → EL → Int → Prop} (L : EL → Nat) (hN : L = List.length) {x0 : EL} (h : p45 False fu K0 x0) : Den Try.prog G0 45 [.c (.sl 1 x0 none)] (fun r bs => (∃ (y0 y1 y2 y3 y4 : Int) (y5 : Bool) (y6 y7 : Int) (y8 : ByteArray) (y9 y10 : EL) (y11 : Int) (y12 : EL) (y13 : Int) (o0 : OV),(r = .tup [.agg [.c (.v (.int .i64 y0)),.c (.v (.int .u64 y1)),.c (.v (.int .u64 y2)),.c (.v (.int .i64 y3)),.c (.v (.int .i64 y4)),.c (.v (.bool y5)),.c (.v (.int .i64 y6)),.c (.v (.int .i64 y7)),.c (.v (.string y8)),.c (.sl 3 y9 none),.c (.sl 5 y10 none),.c (.v (.int .i64 y11)),.c (.sl 1 y12 none)],.c (.v (.int .i64 y13))] ∧ bs = [o0]) ∧ K0 y0 y1 y2 y3 y4 y5 y6 y7 y8 y9 y10 y11 y12 y13)) := by
 obtain ⟨O,hO⟩ : ∃ O,O = std 0 T G0 (Den Try.prog G0) := ⟨_,rfl⟩
 have hLO : L = O.len := by rw [hN,hO]; rfl
 subst hLO
 refine den_h hO tiA mixed tabOk (fn := Try.f45) (sh := true) (by kernel_rfl) rfl rfl rfl rfl ?_
 intro Q hQ
 unfold p45 at h
 conv => cbv
 refine z0c hO [.ref 2] (d_p91 fu O.len hN h) ?_
 intro os Q hos hQ
 conv => cbv
 refine ⟨(by (rw [hos]) <;> (subst hO; rfl)),?_⟩
 intro r bs hq
 rw [hQ] at hq
 clear hos hQ h
 obtain ⟨y1,y2,y3,⟨rfl,rfl⟩,h⟩ := hq
 conv => cbv
 refine z0c hO [.ref 2] (d_p92 fu O.len hN h) ?_
 intro os Q hos hQ
 conv => cbv
 refine ⟨(by (rw [hos]) <;> (subst hO; rfl)),?_⟩
 intro r bs hq
 rw [hQ] at hq
 clear hos hQ h
 obtain ⟨y4,y5,y6,⟨rfl,rfl⟩,h⟩ := hq
 conv => cbv
 refine z0c hO [.ref 2] (d_p92 fu O.len hN h) ?_
 intro os Q hos hQ
 conv => cbv
 refine ⟨(by (rw [hos]) <;> (subst hO; rfl)),?_⟩
 intro r bs hq
 rw [hQ] at hq
 clear hos hQ h
 obtain ⟨y7,y8,y9,⟨rfl,rfl⟩,h⟩ := hq
 conv => cbv
 refine z0c hO [.ref 2] (d_p91 fu O.len hN h) ?_
 intro os Q hos hQ
 conv => cbv
 refine ⟨(by (rw [hos]) <;> (subst hO; rfl)),?_⟩
 intro r bs hq
 rw [hQ] at hq
 clear hos hQ h
 obtain ⟨y10,y11,y12,⟨rfl,rfl⟩,h⟩ := hq
 conv => cbv
 refine z0c hO [.ref 2] (d_p91 fu O.len hN h) ?_
 intro os Q hos hQ
 conv => cbv
 refine ⟨(by (rw [hos]) <;> (subst hO; rfl)),?_⟩
 intro r bs hq
 rw [hQ] at hq
 clear hos hQ h
 obtain ⟨y13,y14,y15,⟨rfl,rfl⟩,h⟩ := hq
 conv => cbv
 refine z0c hO [.ref 2,.shut,.shut] (d_p93 fu O.len hN h) ?_
 intro os Q hos hQ
 conv => cbv
 refine ⟨(by (rw [hos]) <;> (subst hO; rfl)),?_⟩
 intro r bs hq
 rw [hQ] at hq
 clear hos hQ h
 obtain ⟨y16,y17,y18,_,_,⟨rfl,rfl⟩,h⟩ := hq
 conv => cbv
 refine z0l hO tiA [2,4,5,52] [3000,6000,11000] [] (fun tm m => ∃ (j19 : EL) (j20 : Int) (j21 : Bool) (j22 : Bool),((tm = frame 0 120 [(2,.p 3000 0 0),(4,.p 11000 0 0),(5,.p 6000 0 0),(52,.c (.v (.bool j22)))] ∧ m = ⟨[(3000,.blk 0 [.c (.v (.int .i64 0)),.c (.v (.int .u64 0)),.c (.v (.int .u64 0)),.c (.v (.int .i64 0)),.c (.v (.int .i64 0)),.c (.v (.bool false)),.c (.v (.int .i64 0)),.c (.v (.int .i64 0)),.c (.v (.string ⟨#[]⟩)),.c (.sl 3 [] (some [])),.c (.sl 5 [] (some [])),.c (.v (.int .i64 0)),.c (.sl 1 [] (some []))]),(6000,.blk 0 [.c (.v (.int .i64 y1)),.c (.v (.int .u64 y4)),.c (.v (.int .u64 y7)),.c (.v (.int .i64 y10)),.c (.v (.int .i64 y13)),.c (.v (.bool j21)),.c (.v (.int .i64 0)),.c (.v (.int .i64 0)),.c (.v (.string ⟨#[]⟩)),.c (.sl 3 [] (some [])),.c (.sl 5 [] (some [])),.c (.v (.int .i64 0)),.c (.sl 1 [] (some []))]),(11000,.blk 0 [.c (.sl 1 j19 none),.c (.v (.int .i64 j20))])],1⟩)) ∧ p45_7 False fu K0 y1 y4 y7 y10 y13 j19 j20 j21 j22) (fun L hL_7 => ?_) ?_
 conv => cbv
 refine z0c hO [.ref 2,.shut,.shut] (d_p93 fu O.len hN h) ?_
 intro os Q hos hQ
 conv => cbv
 refine ⟨(by (rw [hos]) <;> (subst hO; rfl)),?_⟩
 intro r bs hq
 rw [hQ] at hq
 clear hos hQ h
 obtain ⟨y62,y63,y64,_,_,⟨rfl,rfl⟩,h⟩ := hq
 conv => cbv
 refine br_h hO h (by subst hO; rfl) (fun hc8 h => ?_) (fun hc8 h => ?_)
 conv => cbv
 refine br_t hO hc8 ?_
 conv => cbv
 refine br_t hO hc8 ?_
 conv => cbv
 refine br_t hO hc8 ?_
 conv => cbv
 refine br_t hO hc8 ?_
 conv => cbv
 refine br_t hO hc8 ?_
 conv => cbv
 refine br_t hO hc8 ?_
 conv => cbv
 exact hL_7 _ _ ⟨y63,y64,(z0a .eql y16 1),(z0a .eql y64 0),⟨(by (conv => lhs; cbv) <;> (subst hO; rfl)),(by (conv => lhs; cbv) <;> (subst hO; rfl))⟩,h⟩
 conv => cbv
 refine br_f hO hc8 ?_
 conv => cbv
 refine br_f hO hc8 ?_
 conv => cbv
 refine br_f hO hc8 ?_
 conv => cbv
 refine br_f hO hc8 ?_
 conv => cbv
 refine br_f hO hc8 ?_
 conv => cbv
 refine br_f hO hc8 ?_
 conv => cbv
 exact hL_7 _ _ ⟨y63,y64,(z0a .eql y16 1),false,⟨(by (conv => lhs; cbv) <;> (subst hO; rfl)),(by (conv => lhs; cbv) <;> (subst hO; rfl))⟩,h⟩
 rintro tm m ⟨j19,j20,j21,j22,hs,h⟩
 unfold p45_7 at h
 obtain ⟨rfl,rfl⟩ := hs
 conv => cbv
 refine z0h hO tiA h (by subst hO; rfl) [2,4,5] [3000,6000,11000] [] (fun tm m => ∃ (j23 : EL) (j24 : Int) (j25 : Int) (j26 : Int) (j27 : ByteArray) (j28 : EL) (j29 : EL),((tm = frame 0 120 [(2,.p 3000 0 0),(4,.p 11000 0 0),(5,.p 6000 0 0)] ∧ m = ⟨[(3000,.blk 0 [.c (.v (.int .i64 0)),.c (.v (.int .u64 0)),.c (.v (.int .u64 0)),.c (.v (.int .i64 0)),.c (.v (.int .i64 0)),.c (.v (.bool false)),.c (.v (.int .i64 0)),.c (.v (.int .i64 0)),.c (.v (.string ⟨#[]⟩)),.c (.sl 3 [] (some [])),.c (.sl 5 [] (some [])),.c (.v (.int .i64 0)),.c (.sl 1 [] (some []))]),(6000,.blk 0 [.c (.v (.int .i64 y1)),.c (.v (.int .u64 y4)),.c (.v (.int .u64 y7)),.c (.v (.int .i64 y10)),.c (.v (.int .i64 y13)),.c (.v (.bool j21)),.c (.v (.int .i64 j25)),.c (.v (.int .i64 j26)),.c (.v (.string j27)),.c (.sl 3 j28 none),.c (.sl 5 j29 none),.c (.v (.int .i64 0)),.c (.sl 1 [] (some []))]),(11000,.blk 0 [.c (.sl 1 j23 none),.c (.v (.int .i64 j24))])],1⟩) ∨ (j28 = [] ∧ j29 = [] ∧ tm = frame 0 120 [(2,.p 3000 0 0),(4,.p 11000 0 0),(5,.p 6000 0 0)] ∧ m = ⟨[(3000,.blk 0 [.c (.v (.int .i64 0)),.c (.v (.int .u64 0)),.c (.v (.int .u64 0)),.c (.v (.int .i64 0)),.c (.v (.int .i64 0)),.c (.v (.bool false)),.c (.v (.int .i64 0)),.c (.v (.int .i64 0)),.c (.v (.string ⟨#[]⟩)),.c (.sl 3 [] (some [])),.c (.sl 5 [] (some [])),.c (.v (.int .i64 0)),.c (.sl 1 [] (some []))]),(6000,.blk 0 [.c (.v (.int .i64 y1)),.c (.v (.int .u64 y4)),.c (.v (.int .u64 y7)),.c (.v (.int .i64 y10)),.c (.v (.int .i64 y13)),.c (.v (.bool j21)),.c (.v (.int .i64 j25)),.c (.v (.int .i64 j26)),.c (.v (.string j27)),.c (.sl 3 [] (some [])),.c (.sl 5 [] (some [])),.c (.v (.int .i64 0)),.c (.sl 1 [] (some []))]),(11000,.blk 0 [.c (.sl 1 j23 none),.c (.v (.int .i64 j24))])],1⟩)) ∧ p45_5 False fu K0 y1 y4 y7 y10 y13 j21 j23 j24 j25 j26 j27 j28 j29) (fun hc6 h L hL_5 => ?_) (fun hc6 h L hL_5 => ?_) ?_
 conv => cbv
 refine z0c hO [.ref 2] (d_p65 fu O.len hN h) ?_
 intro os Q hos hQ
 conv => cbv
 refine ⟨(by (rw [hos]) <;> (subst hO; rfl)),?_⟩
 intro r bs hq
 rw [hQ] at hq
 clear hos hQ h
 obtain ⟨y50,y51,y52,y53,y54,y55,y56,⟨rfl,rfl⟩,h⟩ := hq
 conv => cbv
 refine z0c hO [.shut,.shut] (d_p86 fu O.len hN h) ?_
 intro os Q hos hQ
 conv => cbv
 refine ⟨(by (rw [hos]) <;> (subst hO; rfl)),?_⟩
 intro r bs hq
 rw [hQ] at hq
 clear hos hQ h
 obtain ⟨y57,_,_,⟨rfl,rfl⟩,h⟩ := hq
 conv => cbv
 refine z0h hO tiA h (by subst hO; rfl) [2,4,5] [3000,6000,11000] [] (fun tm m => ∃ (j58 : EL) (j59 : Int),((tm = frame 0 120 [(2,.p 3000 0 0),(4,.p 11000 0 0),(5,.p 6000 0 0)] ∧ m = ⟨[(3000,.blk 0 [.c (.v (.int .i64 0)),.c (.v (.int .u64 0)),.c (.v (.int .u64 0)),.c (.v (.int .i64 0)),.c (.v (.int .i64 0)),.c (.v (.bool false)),.c (.v (.int .i64 0)),.c (.v (.int .i64 0)),.c (.v (.string ⟨#[]⟩)),.c (.sl 3 [] (some [])),.c (.sl 5 [] (some [])),.c (.v (.int .i64 0)),.c (.sl 1 [] (some []))]),(6000,.blk 0 [.c (.v (.int .i64 y1)),.c (.v (.int .u64 y4)),.c (.v (.int .u64 y7)),.c (.v (.int .i64 y10)),.c (.v (.int .i64 y13)),.c (.v (.bool j21)),.c (.v (.int .i64 y50)),.c (.v (.int .i64 y51)),.c (.v (.string y52)),.c (.sl 3 y53 none),.c (.sl 5 y54 none),.c (.v (.int .i64 0)),.c (.sl 1 [] (some []))]),(11000,.blk 0 [.c (.sl 1 j58 none),.c (.v (.int .i64 j59))])],1⟩)) ∧ p45_6 False fu K0 y1 y4 y7 y10 y13 j21 y50 y51 y52 y53 y54 j58 j59) (fun hc7 h L hL_6 => ?_) (fun hc7 h L hL_6 => ?_) ?_
 conv => cbv
 refine z0c hO [.ref 2,.shut] (d_p94 fu O.len hN h) ?_
 intro os Q hos hQ
 conv => cbv
 refine ⟨(by (rw [hos]) <;> (subst hO; rfl)),?_⟩
 intro r bs hq
 rw [hQ] at hq
 clear hos hQ h
 obtain ⟨y60,y61,_,⟨rfl,rfl⟩,h⟩ := hq
 conv => cbv
 exact hL_6 _ _ ⟨y60,y61,⟨(by (conv => lhs; cbv) <;> (subst hO; rfl)),(by (conv => lhs; cbv) <;> (subst hO; rfl))⟩,h⟩
 conv => cbv
 exact hL_6 _ _ ⟨y55,y56,⟨(by (conv => lhs; cbv) <;> (subst hO; rfl)),(by (conv => lhs; cbv) <;> (subst hO; rfl))⟩,h⟩
 rintro tm m ⟨j58,j59,hs,h⟩
 unfold p45_6 at h
 obtain ⟨rfl,rfl⟩ := hs
 conv => cbv
 exact hL_5 _ _ ⟨j58,j59,y50,y51,y52,y53,y54,(.inl ⟨(by (conv => lhs; cbv) <;> (subst hO; rfl)),(by (conv => lhs; cbv) <;> (subst hO; rfl))⟩),h⟩
 conv => cbv
 exact hL_5 _ _ ⟨j19,j20,0,0,⟨#[]⟩,nilE,nilE,(.inr ⟨rfl,rfl,(by (conv => lhs; cbv) <;> (subst hO; rfl)),(by (conv => lhs; cbv) <;> (subst hO; rfl))⟩),h⟩
 rintro tm m ⟨j23,j24,j25,j26,j27,j28,j29,hs,h⟩
 unfold p45_5 at h
 rcases hs with hs | hs
 obtain ⟨rfl,rfl⟩ := hs
 conv => cbv
 refine z0c hO [.ref 2] (d_p91 fu O.len hN h) ?_
 intro os Q hos hQ
 conv => cbv
 refine ⟨(by (rw [hos]) <;> (subst hO; rfl)),?_⟩
 intro r bs hq
 rw [hQ] at hq
 clear hos hQ h
 obtain ⟨y30,y31,y32,⟨rfl,rfl⟩,h⟩ := hq
 conv => cbv
 refine z0c hO [.ref 2] (d_p91 fu O.len hN h) ?_
 intro os Q hos hQ
 conv => cbv
 refine ⟨(by (rw [hos]) <;> (subst hO; rfl)),?_⟩
 intro r bs hq
 rw [hQ] at hq
 clear hos hQ h
 obtain ⟨y33,y34,y35,⟨rfl,rfl⟩,h⟩ := hq
 conv => cbv
 refine z0h hO tiA h (by subst hO; rfl) [2,4,5,6] [3000,6000,11000] [] (fun tm m => ∃ (j36 : EL) (j37 : Int),((tm = frame 0 120 [(2,.p 3000 0 0),(4,.p 11000 0 0),(5,.p 6000 0 0),(6,.c (.v (.int .i64 y33)))] ∧ m = ⟨[(3000,.blk 0 [.c (.v (.int .i64 0)),.c (.v (.int .u64 0)),.c (.v (.int .u64 0)),.c (.v (.int .i64 0)),.c (.v (.int .i64 0)),.c (.v (.bool false)),.c (.v (.int .i64 0)),.c (.v (.int .i64 0)),.c (.v (.string ⟨#[]⟩)),.c (.sl 3 [] (some [])),.c (.sl 5 [] (some [])),.c (.v (.int .i64 0)),.c (.sl 1 [] (some []))]),(6000,.blk 0 [.c (.v (.int .i64 y1)),.c (.v (.int .u64 y4)),.c (.v (.int .u64 y7)),.c (.v (.int .i64 y10)),.c (.v (.int .i64 y13)),.c (.v (.bool j21)),.c (.v (.int .i64 j25)),.c (.v (.int .i64 j26)),.c (.v (.string j27)),.c (.sl 3 j28 none),.c (.sl 5 j29 none),.c (.v (.int .i64 y30)),.c (.sl 1 [] (some []))]),(11000,.blk 0 [.c (.sl 1 j36 none),.c (.v (.int .i64 j37))])],1⟩)) ∧ p45_4 False fu K0 y1 y4 y7 y10 y13 j21 j25 j26 j27 j28 j29 y30 y33 j36 j37) (fun hc5 h L hL_4 => ?_) (fun hc5 h L hL_4 => ?_) ?_
 conv => cbv
 refine z0c hO [.ref 2,.shut] (d_p94 fu O.len hN h) ?_
 intro os Q hos hQ
 conv => cbv
 refine ⟨(by (rw [hos]) <;> (subst hO; rfl)),?_⟩
 intro r bs hq
 rw [hQ] at hq
 clear hos hQ h
 obtain ⟨y48,y49,_,⟨rfl,rfl⟩,h⟩ := hq
 conv => cbv
 exact hL_4 _ _ ⟨y48,y49,⟨(by (conv => lhs; cbv) <;> (subst hO; rfl)),(by (conv => lhs; cbv) <;> (subst hO; rfl))⟩,h⟩
 conv => cbv
 exact hL_4 _ _ ⟨y34,y35,⟨(by (conv => lhs; cbv) <;> (subst hO; rfl)),(by (conv => lhs; cbv) <;> (subst hO; rfl))⟩,h⟩
 rintro tm m ⟨j36,j37,hs,h⟩
 unfold p45_4 at h
 obtain ⟨rfl,rfl⟩ := hs
 conv => cbv
 refine z0s hO tiA [2,4,5,6] [3000,6000,11000,102000] [] (fun (n : Nat) tm m => ∃ (z38 : EL) (z39 : Int) (z40 : EL) (z41 : Int),((z40 = [] ∧ tm = frame 0 120 [(2,.p 3000 0 0),(4,.p 11000 0 0),(5,.p 6000 0 0),(6,.c (.v (.int .i64 z41)))] ∧ m = ⟨[(3000,.blk 0 [.c (.v (.int .i64 0)),.c (.v (.int .u64 0)),.c (.v (.int .u64 0)),.c (.v (.int .i64 0)),.c (.v (.int .i64 0)),.c (.v (.bool false)),.c (.v (.int .i64 0)),.c (.v (.int .i64 0)),.c (.v (.string ⟨#[]⟩)),.c (.sl 3 [] (some [])),.c (.sl 5 [] (some [])),.c (.v (.int .i64 0)),.c (.sl 1 [] (some []))]),(6000,.blk 0 [.c (.v (.int .i64 y1)),.c (.v (.int .u64 y4)),.c (.v (.int .u64 y7)),.c (.v (.int .i64 y10)),.c (.v (.int .i64 y13)),.c (.v (.bool j21)),.c (.v (.int .i64 j25)),.c (.v (.int .i64 j26)),.c (.v (.string j27)),.c (.sl 3 j28 none),.c (.sl 5 j29 none),.c (.v (.int .i64 y30)),.c (.sl 1 [] (some []))]),(11000,.blk 0 [.c (.sl 1 z38 none),.c (.v (.int .i64 z39))])],1⟩) ∨ (tm = frame 0 120 [(2,.p 3000 0 0),(4,.p 11000 0 0),(5,.p 6000 0 0),(6,.c (.v (.int .i64 z41)))] ∧ m = ⟨[(3000,.blk 0 [.c (.v (.int .i64 0)),.c (.v (.int .u64 0)),.c (.v (.int .u64 0)),.c (.v (.int .i64 0)),.c (.v (.int .i64 0)),.c (.v (.bool false)),.c (.v (.int .i64 0)),.c (.v (.int .i64 0)),.c (.v (.string ⟨#[]⟩)),.c (.sl 3 [] (some [])),.c (.sl 5 [] (some [])),.c (.v (.int .i64 0)),.c (.sl 1 [] (some []))]),(6000,.blk 0 [.c (.v (.int .i64 y1)),.c (.v (.int .u64 y4)),.c (.v (.int .u64 y7)),.c (.v (.int .i64 y10)),.c (.v (.int .i64 y13)),.c (.v (.bool j21)),.c (.v (.int .i64 j25)),.c (.v (.int .i64 j26)),.c (.v (.string j27)),.c (.sl 3 j28 none),.c (.sl 5 j29 none),.c (.v (.int .i64 y30)),.t 102000 0 (O.len z40)]),(11000,.blk 0 [.c (.sl 1 z38 none),.c (.v (.int .i64 z39))]),(102000,.arr 0 1 z40 none false)],1⟩)) ∧ p45_3L False fu K0 y1 y4 y7 y10 y13 j21 j25 j26 j27 j28 j29 y30 n z38 z39 z40 z41) (fun n => n) fu ⟨j36,j37,nilE,y33,(.inl ⟨rfl,(by (conv => lhs; cbv) <;> (subst hO; rfl)),(by (conv => lhs; cbv) <;> (subst hO; rfl))⟩),h⟩ ?_
 rintro n1 tm m L ⟨z38,z39,z40,z41,hs,h⟩ hLn1
 (cases n1 with
 | zero => rw [p45_3L] at h; exact h.elim
 | succ n1 =>
 rw [p45_3L] at h
 unfold p45_3 at h
 rcases hs with hs | hs
 obtain ⟨rfl,rfl,rfl⟩ := hs
 conv => cbv
 refine z0l hO tiA [2,4,5,6,90] [3000,6000,11000] [] (fun tm m => ∃ (j42 : Bool),((tm = frame 0 120 [(2,.p 3000 0 0),(4,.p 11000 0 0),(5,.p 6000 0 0),(6,.c (.v (.int .i64 z41))),(90,.c (.v (.bool j42)))] ∧ m = ⟨[(3000,.blk 0 [.c (.v (.int .i64 0)),.c (.v (.int .u64 0)),.c (.v (.int .u64 0)),.c (.v (.int .i64 0)),.c (.v (.int .i64 0)),.c (.v (.bool false)),.c (.v (.int .i64 0)),.c (.v (.int .i64 0)),.c (.v (.string ⟨#[]⟩)),.c (.sl 3 [] (some [])),.c (.sl 5 [] (some [])),.c (.v (.int .i64 0)),.c (.sl 1 [] (some []))]),(6000,.blk 0 [.c (.v (.int .i64 y1)),.c (.v (.int .u64 y4)),.c (.v (.int .u64 y7)),.c (.v (.int .i64 y10)),.c (.v (.int .i64 y13)),.c (.v (.bool j21)),.c (.v (.int .i64 j25)),.c (.v (.int .i64 j26)),.c (.v (.string j27)),.c (.sl 3 j28 none),.c (.sl 5 j29 none),.c (.v (.int .i64 y30)),.c (.sl 1 [] (some []))]),(11000,.blk 0 [.c (.sl 1 z38 none),.c (.v (.int .i64 z39))])],1⟩)) ∧ p45_2 False fu K0 (p45_3L False fu K0 y1 y4 y7 y10 y13 j21 j25 j26 j27 j28 j29 y30 n1) y1 y4 y7 y10 y13 j21 j25 j26 j27 j28 j29 y30 z38 z39 nilE z41 j42) (fun L hL_2 => ?_) ?_
 conv => cbv
 refine br_h hO h (by subst hO; rfl) (fun hc4 h => ?_) (fun hc4 h => ?_)
 conv => cbv
 refine br_t hO hc4 ?_
 conv => cbv
 refine br_t hO hc4 ?_
 conv => cbv
 refine br_t hO hc4 ?_
 conv => cbv
 refine br_t hO hc4 ?_
 conv => cbv
 refine br_t hO hc4 ?_
 conv => cbv
 refine br_t hO hc4 ?_
 conv => cbv
 exact hL_2 _ _ ⟨(z0a .eql z39 0),⟨(by (conv => lhs; cbv) <;> (subst hO; rfl)),(by (conv => lhs; cbv) <;> (subst hO; rfl))⟩,h⟩
 conv => cbv
 refine br_f hO hc4 ?_
 conv => cbv
 refine br_f hO hc4 ?_
 conv => cbv
 refine br_f hO hc4 ?_
 conv => cbv
 refine br_f hO hc4 ?_
 conv => cbv
 refine br_f hO hc4 ?_
 conv => cbv
 refine br_f hO hc4 ?_
 conv => cbv
 exact hL_2 _ _ ⟨false,⟨(by (conv => lhs; cbv) <;> (subst hO; rfl)),(by (conv => lhs; cbv) <;> (subst hO; rfl))⟩,h⟩
 rintro tm m ⟨j42,hs,h⟩
 unfold p45_2 at h
 obtain ⟨rfl,rfl⟩ := hs
 conv => cbv
 refine br_h hO h (by subst hO; rfl) (fun hc1 h => ?_) (fun hc1 h => ?_)
 conv => cbv
 refine z0b hO ?_
 conv => cbv
 refine z0i hO tiA [[11000],[],[],[],[]] [(0,true,false),(1,true,false),(2,true,false),(3,true,false),(4,true,false),(5,false,false),(6,true,false),(7,false,false),(8,false,true),(9,true,true),(10,false,true)] (by kernel_rfl) ?_
 conv => cbv
 refine z0c hO [.ref 2,.shut] (d_p95 fu O.len hN h) ?_
 intro os Q hos hQ
 conv => cbv
 refine ⟨(by (rw [hos]) <;> (subst hO; rfl)),?_⟩
 intro r bs hq
 rw [hQ] at hq
 clear hos hQ h
 obtain ⟨y43,y44,y45,_,⟨rfl,rfl⟩,h⟩ := hq
 conv => cbv
 refine ⟨z0e hO (Nat.le_of_ble_eq_true rfl) rfl,?_⟩
 refine tob_h hO h (by subst hO; rfl) (fun s46 h => ?_)
 conv => cbv
 refine ⟨z0e hO (Nat.le_of_ble_eq_true rfl) rfl,?_⟩
 refine z0v hO h (fun g => (by subst hO; exact g)) (fun h => ?_)
 conv => cbv
 refine and_h h (fun g => (by subst hO; exact g)) (fun h => ?_)
 refine z3r hO (by subst hO; exact List.cons_ne_nil _ _) ?_
 conv => cbv
 refine z0b hO ?_
 conv => cbv
 exact hLn1 n1 _ _ (Nat.lt_succ_self n1) ⟨y44,y45,(nilE ++ (List.take 1 [[(CV.v (.string s46))]])),z0d .sub .i64 z41 1,(.inr ⟨(by (conv => lhs; cbv) <;> (subst hO; rfl)),(by (conv => lhs; cbv) <;> (subst hO; rfl))⟩),h⟩
 conv => cbv
 refine z0l hO tiA [2,5,117] [3000,6000] [] (fun tm m => ∃ (j47 : Bool),((tm = frame 0 120 [(2,.p 3000 0 0),(5,.p 6000 0 0),(117,.c (.v (.bool j47)))] ∧ m = ⟨[(3000,.blk 0 [.c (.v (.int .i64 0)),.c (.v (.int .u64 0)),.c (.v (.int .u64 0)),.c (.v (.int .i64 0)),.c (.v (.int .i64 0)),.c (.v (.bool false)),.c (.v (.int .i64 0)),.c (.v (.int .i64 0)),.c (.v (.string ⟨#[]⟩)),.c (.sl 3 [] (some [])),.c (.sl 5 [] (some [])),.c (.v (.int .i64 0)),.c (.sl 1 [] (some []))]),(6000,.blk 0 [.c (.v (.int .i64 y1)),.c (.v (.int .u64 y4)),.c (.v (.int .u64 y7)),.c (.v (.int .i64 y10)),.c (.v (.int .i64 y13)),.c (.v (.bool j21)),.c (.v (.int .i64 j25)),.c (.v (.int .i64 j26)),.c (.v (.string j27)),.c (.sl 3 j28 none),.c (.sl 5 j29 none),.c (.v (.int .i64 y30)),.c (.sl 1 [] (some []))])],1⟩)) ∧ p45_1 False fu K0 y1 y4 y7 y10 y13 j21 j25 j26 j27 j28 j29 y30 nilE j47) (fun L hL_1 => ?_) ?_
 conv => cbv
 refine br_h hO h (by subst hO; rfl) (fun hc3 h => ?_) (fun hc3 h => ?_)
 conv => cbv
 refine br_t hO hc3 ?_
 conv => cbv
 refine br_t hO hc3 ?_
 conv => cbv
 refine br_t hO hc3 ?_
 conv => cbv
 refine br_t hO hc3 ?_
 conv => cbv
 refine br_t hO hc3 ?_
 conv => cbv
 refine br_t hO hc3 ?_
 conv => cbv
 refine br_t hO hc3 ?_
 conv => cbv
 exact hL_1 _ _ ⟨true,⟨(by (conv => lhs; cbv) <;> (subst hO; rfl)),(by (conv => lhs; cbv) <;> (subst hO; rfl))⟩,h⟩
 conv => cbv
 refine br_f hO hc3 ?_
 conv => cbv
 refine br_f hO hc3 ?_
 conv => cbv
 refine br_f hO hc3 ?_
 conv => cbv
 refine br_f hO hc3 ?_
 conv => cbv
 refine br_f hO hc3 ?_
 conv => cbv
 refine br_f hO hc3 ?_
 conv => cbv
 refine br_f hO hc3 ?_
 conv => cbv
 exact hL_1 _ _ ⟨(z0a .gtr ((z38.length : Nat) : Int) 0),⟨(by (conv => lhs; cbv) <;> (subst hO; rfl)),(by (conv => lhs; cbv) <;> (subst hO; rfl))⟩,h⟩
 rintro tm m ⟨j47,hs,h⟩
 unfold p45_1 at h
 obtain ⟨rfl,rfl⟩ := hs
 conv => cbv
 refine br_h hO h (by subst hO; rfl) (fun hc2 h => ?_) (fun hc2 h => ?_)
 conv => cbv
 rw [hQ]
 exact ⟨0,0,0,0,0,false,0,0,⟨#[]⟩,nilE,nilE,0,nilE,5,_,⟨(by subst hO; rfl),(by subst hO; rfl)⟩,h⟩
 conv => cbv
 refine z0b hO ?_
 conv => cbv
 rw [hQ]
 exact ⟨y1,y4,y7,y10,y13,j21,j25,j26,j27,j28,j29,y30,nilE,0,_,⟨(by subst hO; rfl),(by subst hO; rfl)⟩,h⟩
 obtain ⟨rfl,rfl⟩ := hs
 conv => cbv
 refine z0l hO tiA [2,4,5,6,90] [3000,6000,11000,102000] [] (fun tm m => ∃ (j42 : Bool),((tm = frame 0 120 [(2,.p 3000 0 0),(4,.p 11000 0 0),(5,.p 6000 0 0),(6,.c (.v (.int .i64 z41))),(90,.c (.v (.bool j42)))] ∧ m = ⟨[(3000,.blk 0 [.c (.v (.int .i64 0)),.c (.v (.int .u64 0)),.c (.v (.int .u64 0)),.c (.v (.int .i64 0)),.c (.v (.int .i64 0)),.c (.v (.bool false)),.c (.v (.int .i64 0)),.c (.v (.int .i64 0)),.c (.v (.string ⟨#[]⟩)),.c (.sl 3 [] (some [])),.c (.sl 5 [] (some [])),.c (.v (.int .i64 0)),.c (.sl 1 [] (some []))]),(6000,.blk 0 [.c (.v (.int .i64 y1)),.c (.v (.int .u64 y4)),.c (.v (.int .u64 y7)),.c (.v (.int .i64 y10)),.c (.v (.int .i64 y13)),.c (.v (.bool j21)),.c (.v (.int .i64 j25)),.c (.v (.int .i64 j26)),.c (.v (.string j27)),.c (.sl 3 j28 none),.c (.sl 5 j29 none),.c (.v (.int .i64 y30)),.t 102000 0 (O.len z40)]),(11000,.blk 0 [.c (.sl 1 z38 none),.c (.v (.int .i64 z39))]),(102000,.arr 0 1 z40 none false)],1⟩)) ∧ p45_2 False fu K0 (p45_3L False fu K0 y1 y4 y7 y10 y13 j21 j25 j26 j27 j28 j29 y30 n1) y1 y4 y7 y10 y13 j21 j25 j26 j27 j28 j29 y30 z38 z39 z40 z41 j42) (fun L hL_2 => ?_) ?_
 conv => cbv
 refine br_h hO h (by subst hO; rfl) (fun hc4 h => ?_) (fun hc4 h => ?_)
 conv => cbv
 refine br_t hO hc4 ?_
 conv => cbv
 refine br_t hO hc4 ?_
 conv => cbv
 refine br_t hO hc4 ?_
 conv => cbv
 refine br_t hO hc4 ?_
 conv => cbv
 refine br_t hO hc4 ?_
 conv => cbv
 refine br_t hO hc4 ?_
 conv => cbv
 exact hL_2 _ _ ⟨(z0a .eql z39 0),⟨(by (conv => lhs; cbv) <;> (subst hO; rfl)),(by (conv => lhs; cbv) <;> (subst hO; rfl))⟩,h⟩
 conv => cbv
 refine br_f hO hc4 ?_
 conv => cbv
 refine br_f hO hc4 ?_
 conv => cbv
 refine br_f hO hc4 ?_
 conv => cbv
 refine br_f hO hc4 ?_
 conv => cbv
 refine br_f hO hc4 ?_
 conv => cbv
 refine br_f hO hc4 ?_
 conv => cbv
 exact hL_2 _ _ ⟨false,⟨(by (conv => lhs; cbv) <;> (subst hO; rfl)),(by (conv => lhs; cbv) <;> (subst hO; rfl))⟩,h⟩
 rintro tm m ⟨j42,hs,h⟩
 unfold p45_2 at h
 obtain ⟨rfl,rfl⟩ := hs
 conv => cbv
 refine br_h hO h (by subst hO; rfl) (fun hc1 h => ?_) (fun hc1 h => ?_)
 conv => cbv
 refine z0b hO ?_
 conv => cbv
 refine z0i hO tiA [[11000],[],[],[],[]] [(0,true,false),(1,true,false),(2,true,false),(3,true,false),(4,true,false),(5,false,false),(6,true,false),(7,false,false),(8,false,true),(9,true,true),(10,false,true)] (by kernel_rfl) ?_
 conv => cbv
 refine z0c hO [.ref 2,.shut] (d_p95 fu O.len hN h) ?_
 intro os Q hos hQ
 conv => cbv
 refine ⟨(by (rw [hos]) <;> (subst hO; rfl)),?_⟩
 intro r bs hq
 rw [hQ] at hq
 clear hos hQ h
 obtain ⟨y43,y44,y45,_,⟨rfl,rfl⟩,h⟩ := hq
 conv => cbv
 refine ⟨z0e hO (Nat.le_of_ble_eq_true rfl) rfl,?_⟩
 refine tob_h hO h (by subst hO; rfl) (fun s46 h => ?_)
 conv => cbv
 refine ⟨z0e hO (Nat.le_of_ble_eq_true rfl) rfl,?_⟩
 refine z0v hO h (fun g => (by subst hO; exact g)) (fun h => ?_)
 conv => cbv
 refine ⟨(by subst hO; rfl),?_⟩
 refine and_h h (fun g => (by subst hO; exact g)) (fun h => ?_)
 refine z0b hO ?_
 conv => cbv
 exact hLn1 n1 _ _ (Nat.lt_succ_self n1) ⟨y44,y45,(z40 ++ (List.take 1 [[(CV.v (.string s46))]])),z0d .sub .i64 z41 1,(.inr ⟨(by (conv => lhs; cbv) <;> (subst hO; rfl)),(by (conv => lhs; cbv) <;> (subst hO; rfl))⟩),h⟩
 conv => cbv
 refine z0l hO tiA [2,5,117] [3000,6000,102000] [] (fun tm m => ∃ (j47 : Bool),((tm = frame 0 120 [(2,.p 3000 0 0),(5,.p 6000 0 0),(117,.c (.v (.bool j47)))] ∧ m = ⟨[(3000,.blk 0 [.c (.v (.int .i64 0)),.c (.v (.int .u64 0)),.c (.v (.int .u64 0)),.c (.v (.int .i64 0)),.c (.v (.int .i64 0)),.c (.v (.bool false)),.c (.v (.int .i64 0)),.c (.v (.int .i64 0)),.c (.v (.string ⟨#[]⟩)),.c (.sl 3 [] (some [])),.c (.sl 5 [] (some [])),.c (.v (.int .i64 0)),.c (.sl 1 [] (some []))]),(6000,.blk 0 [.c (.v (.int .i64 y1)),.c (.v (.int .u64 y4)),.c (.v (.int .u64 y7)),.c (.v (.int .i64 y10)),.c (.v (.int .i64 y13)),.c (.v (.bool j21)),.c (.v (.int .i64 j25)),.c (.v (.int .i64 j26)),.c (.v (.string j27)),.c (.sl 3 j28 none),.c (.sl 5 j29 none),.c (.v (.int .i64 y30)),.t 102000 0 (O.len z40)]),(102000,.arr 0 1 z40 none false)],1⟩)) ∧ p45_1 False fu K0 y1 y4 y7 y10 y13 j21 j25 j26 j27 j28 j29 y30 z40 j47) (fun L hL_1 => ?_) ?_
 conv => cbv
 refine br_h hO h (by subst hO; rfl) (fun hc3 h => ?_) (fun hc3 h => ?_)
 conv => cbv
 refine br_t hO hc3 ?_
 conv => cbv
 refine br_t hO hc3 ?_
 conv => cbv
 refine br_t hO hc3 ?_
 conv => cbv
 refine br_t hO hc3 ?_
 conv => cbv
 refine br_t hO hc3 ?_
 conv => cbv
 refine br_t hO hc3 ?_
 conv => cbv
 refine br_t hO hc3 ?_
 conv => cbv
 exact hL_1 _ _ ⟨true,⟨(by (conv => lhs; cbv) <;> (subst hO; rfl)),(by (conv => lhs; cbv) <;> (subst hO; rfl))⟩,h⟩
 conv => cbv
 refine br_f hO hc3 ?_
 conv => cbv
 refine br_f hO hc3 ?_
 conv => cbv
 refine br_f hO hc3 ?_
 conv => cbv
 refine br_f hO hc3 ?_
 conv => cbv
 refine br_f hO hc3 ?_
 conv => cbv
 refine br_f hO hc3 ?_
 conv => cbv
 refine br_f hO hc3 ?_
 conv => cbv
 exact hL_1 _ _ ⟨(z0a .gtr ((z38.length : Nat) : Int) 0),⟨(by (conv => lhs; cbv) <;> (subst hO; rfl)),(by (conv => lhs; cbv) <;> (subst hO; rfl))⟩,h⟩
 rintro tm m ⟨j47,hs,h⟩
 unfold p45_1 at h
 obtain ⟨rfl,rfl⟩ := hs
 conv => cbv
 refine br_h hO h (by subst hO; rfl) (fun hc2 h => ?_) (fun hc2 h => ?_)
 conv => cbv
 rw [hQ]
 exact ⟨0,0,0,0,0,false,0,0,⟨#[]⟩,nilE,nilE,0,nilE,5,_,⟨(by subst hO; rfl),(by subst hO; rfl)⟩,h⟩
 conv => cbv
 refine z0b hO ?_
 conv => cbv
 refine z0m hO ?_
 conv => cbv
 rw [hQ]
 exact ⟨y1,y4,y7,y10,y13,j21,j25,j26,j27,j28,j29,y30,z40,0,_,⟨(by subst hO; rfl),(by subst hO; rfl)⟩,h⟩)
 obtain ⟨rfl,rfl,rfl,rfl⟩ := hs
 conv => cbv
 refine z0c hO [.ref 2] (d_p91 fu O.len hN h) ?_
 intro os Q hos hQ
 conv => cbv
 refine ⟨(by (rw [hos]) <;> (subst hO; rfl)),?_⟩
 intro r bs hq
 rw [hQ] at hq
 clear hos hQ h
 obtain ⟨y30,y31,y32,⟨rfl,rfl⟩,h⟩ := hq
 conv => cbv
 refine z0c hO [.ref 2] (d_p91 fu O.len hN h) ?_
 intro os Q hos hQ
 conv => cbv
 refine ⟨(by (rw [hos]) <;> (subst hO; rfl)),?_⟩
 intro r bs hq
 rw [hQ] at hq
 clear hos hQ h
 obtain ⟨y33,y34,y35,⟨rfl,rfl⟩,h⟩ := hq
 conv => cbv
 refine z0h hO tiA h (by subst hO; rfl) [2,4,5,6] [3000,6000,11000] [] (fun tm m => ∃ (j36 : EL) (j37 : Int),((tm = frame 0 120 [(2,.p 3000 0 0),(4,.p 11000 0 0),(5,.p 6000 0 0),(6,.c (.v (.int .i64 y33)))] ∧ m = ⟨[(3000,.blk 0 [.c (.v (.int .i64 0)),.c (.v (.int .u64 0)),.c (.v (.int .u64 0)),.c (.v (.int .i64 0)),.c (.v (.int .i64 0)),.c (.v (.bool false)),.c (.v (.int .i64 0)),.c (.v (.int .i64 0)),.c (.v (.string ⟨#[]⟩)),.c (.sl 3 [] (some [])),.c (.sl 5 [] (some [])),.c (.v (.int .i64 0)),.c (.sl 1 [] (some []))]),(6000,.blk 0 [.c (.v (.int .i64 y1)),.c (.v (.int .u64 y4)),.c (.v (.int .u64 y7)),.c (.v (.int .i64 y10)),.c (.v (.int .i64 y13)),.c (.v (.bool j21)),.c (.v (.int .i64 j25)),.c (.v (.int .i64 j26)),.c (.v (.string j27)),.c (.sl 3 [] (some [])),.c (.sl 5 [] (some [])),.c (.v (.int .i64 y30)),.c (.sl 1 [] (some []))]),(11000,.blk 0 [.c (.sl 1 j36 none),.c (.v (.int .i64 j37))])],1⟩)) ∧ p45_4 False fu K0 y1 y4 y7 y10 y13 j21 j25 j26 j27 nilE nilE y30 y33 j36 j37) (fun hc5 h L hL_4 => ?_) (fun hc5 h L hL_4 => ?_) ?_
 conv => cbv
 refine z0c hO [.ref 2,.shut] (d_p94 fu O.len hN h) ?_
 intro os Q hos hQ
 conv => cbv
 refine ⟨(by (rw [hos]) <;> (subst hO; rfl)),?_⟩
 intro r bs hq
 rw [hQ] at hq
 clear hos hQ h
 obtain ⟨y48,y49,_,⟨rfl,rfl⟩,h⟩ := hq
 conv => cbv
 exact hL_4 _ _ ⟨y48,y49,⟨(by (conv => lhs; cbv) <;> (subst hO; rfl)),(by (conv => lhs; cbv) <;> (subst hO; rfl))⟩,h⟩
 conv => cbv
 exact hL_4 _ _ ⟨y34,y35,⟨(by (conv => lhs; cbv) <;> (subst hO; rfl)),(by (conv => lhs; cbv) <;> (subst hO; rfl))⟩,h⟩
 rintro tm m ⟨j36,j37,hs,h⟩
 unfold p45_4 at h
 obtain ⟨rfl,rfl⟩ := hs
 conv => cbv
 refine z0s hO tiA [2,4,5,6] [3000,6000,11000,102000] [] (fun (n : Nat) tm m => ∃ (z38 : EL) (z39 : Int) (z40 : EL) (z41 : Int),((z40 = [] ∧ tm = frame 0 120 [(2,.p 3000 0 0),(4,.p 11000 0 0),(5,.p 6000 0 0),(6,.c (.v (.int .i64 z41)))] ∧ m = ⟨[(3000,.blk 0 [.c (.v (.int .i64 0)),.c (.v (.int .u64 0)),.c (.v (.int .u64 0)),.c (.v (.int .i64 0)),.c (.v (.int .i64 0)),.c (.v (.bool false)),.c (.v (.int .i64 0)),.c (.v (.int .i64 0)),.c (.v (.string ⟨#[]⟩)),.c (.sl 3 [] (some [])),.c (.sl 5 [] (some [])),.c (.v (.int .i64 0)),.c (.sl 1 [] (some []))]),(6000,.blk 0 [.c (.v (.int .i64 y1)),.c (.v (.int .u64 y4)),.c (.v (.int .u64 y7)),.c (.v (.int .i64 y10)),.c (.v (.int .i64 y13)),.c (.v (.bool j21)),.c (.v (.int .i64 j25)),.c (.v (.int .i64 j26)),.c (.v (.string j27)),.c (.sl 3 [] (some [])),.c (.sl 5 [] (some [])),.c (.v (.int .i64 y30)),.c (.sl 1 [] (some []))]),(11000,.blk 0 [.c (.sl 1 z38 none),.c (.v (.int .i64 z39))])],1⟩) ∨ (tm = frame 0 120 [(2,.p 3000 0 0),(4,.p 11000 0 0),(5,.p 6000 0 0),(6,.c (.v (.int .i64 z41)))] ∧ m = ⟨[(3000,.blk 0 [.c (.v (.int .i64 0)),.c (.v (.int .u64 0)),.c (.v (.int .u64 0)),.c (.v (.int .i64 0)),.c (.v (.int .i64 0)),.c (.v (.bool false)),.c (.v (.int .i64 0)),.c (.v (.int .i64 0)),.c (.v (.string ⟨#[]⟩)),.c (.sl 3 [] (some [])),.c (.sl 5 [] (some [])),.c (.v (.int .i64 0)),.c (.sl 1 [] (some []))]),(6000,.blk 0 [.c (.v (.int .i64 y1)),.c (.v (.int .u64 y4)),.c (.v (.int .u64 y7)),.c (.v (.int .i64 y10)),.c (.v (.int .i64 y13)),.c (.v (.bool j21)),.c (.v (.int .i64 j25)),.c (.v (.int .i64 j26)),.c (.v (.string j27)),.c (.sl 3 [] (some [])),.c (.sl 5 [] (some [])),.c (.v (.int .i64 y30)),.t 102000 0 (O.len z40)]),(11000,.blk 0 [.c (.sl 1 z38 none),.c (.v (.int .i64 z39))]),(102000,.arr 0 1 z40 none false)],1⟩)) ∧ p45_3L False fu K0 y1 y4 y7 y10 y13 j21 j25 j26 j27 nilE nilE y30 n z38 z39 z40 z41) (fun n => n) fu ⟨j36,j37,nilE,y33,(.inl ⟨rfl,(by (conv => lhs; cbv) <;> (subst hO; rfl)),(by (conv => lhs; cbv) <;> (subst hO; rfl))⟩),h⟩ ?_
 rintro n1 tm m L ⟨z38,z39,z40,z41,hs,h⟩ hLn1
 (cases n1 with
 | zero => rw [p45_3L] at h; exact h.elim
 | succ n1 =>
 rw [p45_3L] at h
 unfold p45_3 at h
 rcases hs with hs | hs
 obtain ⟨rfl,rfl,rfl⟩ := hs
 conv => cbv
 refine z0l hO tiA [2,4,5,6,90] [3000,6000,11000] [] (fun tm m => ∃ (j42 : Bool),((tm = frame 0 120 [(2,.p 3000 0 0),(4,.p 11000 0 0),(5,.p 6000 0 0),(6,.c (.v (.int .i64 z41))),(90,.c (.v (.bool j42)))] ∧ m = ⟨[(3000,.blk 0 [.c (.v (.int .i64 0)),.c (.v (.int .u64 0)),.c (.v (.int .u64 0)),.c (.v (.int .i64 0)),.c (.v (.int .i64 0)),.c (.v (.bool false)),.c (.v (.int .i64 0)),.c (.v (.int .i64 0)),.c (.v (.string ⟨#[]⟩)),.c (.sl 3 [] (some [])),.c (.sl 5 [] (some [])),.c (.v (.int .i64 0)),.c (.sl 1 [] (some []))]),(6000,.blk 0 [.c (.v (.int .i64 y1)),.c (.v (.int .u64 y4)),.c (.v (.int .u64 y7)),.c (.v (.int .i64 y10)),.c (.v (.int .i64 y13)),.c (.v (.bool j21)),.c (.v (.int .i64 j25)),.c (.v (.int .i64 j26)),.c (.v (.string j27)),.c (.sl 3 [] (some [])),.c (.sl 5 [] (some [])),.c (.v (.int .i64 y30)),.c (.sl 1 [] (some []))]),(11000,.blk 0 [.c (.sl 1 z38 none),.c (.v (.int .i64 z39))])],1⟩)) ∧ p45_2 False fu K0 (p45_3L False fu K0 y1 y4 y7 y10 y13 j21 j25 j26 j27 nilE nilE y30 n1) y1 y4 y7 y10 y13 j21 j25 j26 j27 nilE nilE y30 z38 z39 nilE z41 j42) (fun L hL_2 => ?_) ?_
 conv => cbv
 refine br_h hO h (by subst hO; rfl) (fun hc4 h => ?_) (fun hc4 h => ?_)
 conv => cbv
 refine br_t hO hc4 ?_
 conv => cbv
 refine br_t hO hc4 ?_
 conv => cbv
 refine br_t hO hc4 ?_
 conv => cbv
 refine br_t hO hc4 ?_
 conv => cbv
 refine br_t hO hc4 ?_
 conv => cbv
 refine br_t hO hc4 ?_
 conv => cbv
 exact hL_2 _ _ ⟨(z0a .eql z39 0),⟨(by (conv => lhs; cbv) <;> (subst hO; rfl)),(by (conv => lhs; cbv) <;> (subst hO; rfl))⟩,h⟩
 conv => cbv
 refine br_f hO hc4 ?_
 conv => cbv
 refine br_f hO hc4 ?_
 conv => cbv
 refine br_f hO hc4 ?_
 conv => cbv
 refine br_f hO hc4 ?_
 conv => cbv
 refine br_f hO hc4 ?_
 conv => cbv
 refine br_f hO hc4 ?_
 conv => cbv
 exact hL_2 _ _ ⟨false,⟨(by (conv => lhs; cbv) <;> (subst hO; rfl)),(by (conv => lhs; cbv) <;> (subst hO; rfl))⟩,h⟩
 rintro tm m ⟨j42,hs,h⟩
 unfold p45_2 at h
 obtain ⟨rfl,rfl⟩ := hs
 conv => cbv
 refine br_h hO h (by subst hO; rfl) (fun hc1 h => ?_) (fun hc1 h => ?_)
 conv => cbv
 refine z0b hO ?_
 conv => cbv
 refine z0i hO tiA [[11000],[],[],[],[]] [(0,true,false),(1,true,false),(2,true,false),(3,true,false),(4,true,false),(5,false,false),(6,true,false),(7,false,false),(8,false,true),(9,true,true),(10,false,true)] (by kernel_rfl) ?_
 conv => cbv
 refine z0c hO [.ref 2,.shut] (d_p95 fu O.len hN h) ?_
 intro os Q hos hQ
 conv => cbv
 refine ⟨(by (rw [hos]) <;> (subst hO; rfl)),?_⟩
 intro r bs hq
 rw [hQ] at hq
 clear hos hQ h
 obtain ⟨y43,y44,y45,_,⟨rfl,rfl⟩,h⟩ := hq
 conv => cbv
 refine ⟨z0e hO (Nat.le_of_ble_eq_true rfl) rfl,?_⟩
 refine tob_h hO h (by subst hO; rfl) (fun s46 h => ?_)
 conv => cbv
 refine ⟨z0e hO (Nat.le_of_ble_eq_true rfl) rfl,?_⟩
 refine z0v hO h (fun g => (by subst hO; exact g)) (fun h => ?_)
 conv => cbv
 refine and_h h (fun g => (by subst hO; exact g)) (fun h => ?_)
 refine z3r hO (by subst hO; exact List.cons_ne_nil _ _) ?_
 conv => cbv
 refine z0b hO ?_
 conv => cbv
 exact hLn1 n1 _ _ (Nat.lt_succ_self n1) ⟨y44,y45,(nilE ++ (List.take 1 [[(CV.v (.string s46))]])),z0d .sub .i64 z41 1,(.inr ⟨(by (conv => lhs; cbv) <;> (subst hO; rfl)),(by (conv => lhs; cbv) <;> (subst hO; rfl))⟩),h⟩
 conv => cbv
 refine z0l hO tiA [2,5,117] [3000,6000] [] (fun tm m => ∃ (j47 : Bool),((tm = frame 0 120 [(2,.p 3000 0 0),(5,.p 6000 0 0),(117,.c (.v (.bool j47)))] ∧ m = ⟨[(3000,.blk 0 [.c (.v (.int .i64 0)),.c (.v (.int .u64 0)),.c (.v (.int .u64 0)),.c (.v (.int .i64 0)),.c (.v (.int .i64 0)),.c (.v (.bool false)),.c (.v (.int .i64 0)),.c (.v (.int .i64 0)),.c (.v (.string ⟨#[]⟩)),.c (.sl 3 [] (some [])),.c (.sl 5 [] (some [])),.c (.v (.int .i64 0)),.c (.sl 1 [] (some []))]),(6000,.blk 0 [.c (.v (.int .i64 y1)),.c (.v (.int .u64 y4)),.c (.v (.int .u64 y7)),.c (.v (.int .i64 y10)),.c (.v (.int .i64 y13)),.c (.v (.bool j21)),.c (.v (.int .i64 j25)),.c (.v (.int .i64 j26)),.c (.v (.string j27)),.c (.sl 3 [] (some [])),.c (.sl 5 [] (some [])),.c (.v (.int .i64 y30)),.c (.sl 1 [] (some []))])],1⟩)) ∧ p45_1 False fu K0 y1 y4 y7 y10 y13 j21 j25 j26 j27 nilE nilE y30 nilE j47) (fun L hL_1 => ?_) ?_
 conv => cbv
 refine br_h hO h (by subst hO; rfl) (fun hc3 h => ?_) (fun hc3 h => ?_)
 conv => cbv
 refine br_t hO hc3 ?_
 conv => cbv
 refine br_t hO hc3 ?_
 conv => cbv
 refine br_t hO hc3 ?_
 conv => cbv
 refine br_t hO hc3 ?_
 conv => cbv
 refine br_t hO hc3 ?_
 conv => cbv
 refine br_t hO hc3 ?_
 conv => cbv
 refine br_t hO hc3 ?_
 conv => cbv
 exact hL_1 _ _ ⟨true,⟨(by (conv => lhs; cbv) <;> (subst hO; rfl)),(by (conv => lhs; cbv) <;> (subst hO; rfl))⟩,h⟩
 conv => cbv
 refine br_f hO hc3 ?_
 conv => cbv
 refine br_f hO hc3 ?_
 conv => cbv
 refine br_f hO hc3 ?_
 conv => cbv
 refine br_f hO hc3 ?_
 conv => cbv
 refine br_f hO hc3 ?_
 conv => cbv
 refine br_f hO hc3 ?_
 conv => cbv
 refine br_f hO hc3 ?_
 conv => cbv
 exact hL_1 _ _ ⟨(z0a .gtr ((z38.length : Nat) : Int) 0),⟨(by (conv => lhs; cbv) <;> (subst hO; rfl)),(by (conv => lhs; cbv) <;> (subst hO; rfl))⟩,h⟩
 rintro tm m ⟨j47,hs,h⟩
 unfold p45_1 at h
 obtain ⟨rfl,rfl⟩ := hs
 conv => cbv
 refine br_h hO h (by subst hO; rfl) (fun hc2 h => ?_) (fun hc2 h => ?_)
 conv => cbv
 rw [hQ]
 exact ⟨0,0,0,0,0,false,0,0,⟨#[]⟩,nilE,nilE,0,nilE,5,_,⟨(by subst hO; rfl),(by subst hO; rfl)⟩,h⟩
 conv => cbv
 refine z0b hO ?_
 conv => cbv
 rw [hQ]
 exact ⟨y1,y4,y7,y10,y13,j21,j25,j26,j27,nilE,nilE,y30,nilE,0,_,⟨(by subst hO; rfl),(by subst hO; rfl)⟩,h⟩
 obtain ⟨rfl,rfl⟩ := hs
 conv => cbv
 refine z0l hO tiA [2,4,5,6,90] [3000,6000,11000,102000] [] (fun tm m => ∃ (j42 : Bool),((tm = frame 0 120 [(2,.p 3000 0 0),(4,.p 11000 0 0),(5,.p 6000 0 0),(6,.c (.v (.int .i64 z41))),(90,.c (.v (.bool j42)))] ∧ m = ⟨[(3000,.blk 0 [.c (.v (.int .i64 0)),.c (.v (.int .u64 0)),.c (.v (.int .u64 0)),.c (.v (.int .i64 0)),.c (.v (.int .i64 0)),.c (.v (.bool false)),.c (.v (.int .i64 0)),.c (.v (.int .i64 0)),.c (.v (.string ⟨#[]⟩)),.c (.sl 3 [] (some [])),.c (.sl 5 [] (some [])),.c (.v (.int .i64 0)),.c (.sl 1 [] (some []))]),(6000,.blk 0 [.c (.v (.int .i64 y1)),.c (.v (.int .u64 y4)),.c (.v (.int .u64 y7)),.c (.v (.int .i64 y10)),.c (.v (.int .i64 y13)),.c (.v (.bool j21)),.c (.v (.int .i64 j25)),.c (.v (.int .i64 j26)),.c (.v (.string j27)),.c (.sl 3 [] (some [])),.c (.sl 5 [] (some [])),.c (.v (.int .i64 y30)),.t 102000 0 (O.len z40)]),(11000,.blk 0 [.c (.sl 1 z38 none),.c (.v (.int .i64 z39))]),(102000,.arr 0 1 z40 none false)],1⟩)) ∧ p45_2 False fu K0 (p45_3L False fu K0 y1 y4 y7 y10 y13 j21 j25 j26 j27 nilE nilE y30 n1) y1 y4 y7 y10 y13 j21 j25 j26 j27 nilE nilE y30 z38 z39 z40 z41 j42) (fun L hL_2 => ?_) ?_
 conv => cbv
 refine br_h hO h (by subst hO; rfl) (fun hc4 h => ?_) (fun hc4 h => ?_)
 conv => cbv
 refine br_t hO hc4 ?_
 conv => cbv
 refine br_t hO hc4 ?_
 conv => cbv
 refine br_t hO hc4 ?_
 conv => cbv
 refine br_t hO hc4 ?_
 conv => cbv
 refine br_t hO hc4 ?_
 conv => cbv
 refine br_t hO hc4 ?_
 conv => cbv
 exact hL_2 _ _ ⟨(z0a .eql z39 0),⟨(by (conv => lhs; cbv) <;> (subst hO; rfl)),(by (conv => lhs; cbv) <;> (subst hO; rfl))⟩,h⟩
 conv => cbv
 refine br_f hO hc4 ?_
 conv => cbv
 refine br_f hO hc4 ?_
 conv => cbv
 refine br_f hO hc4 ?_
 conv => cbv
 refine br_f hO hc4 ?_
 conv => cbv
 refine br_f hO hc4 ?_
 conv => cbv
 refine br_f hO hc4 ?_
 conv => cbv
 exact hL_2 _ _ ⟨false,⟨(by (conv => lhs; cbv) <;> (subst hO; rfl)),(by (conv => lhs; cbv) <;> (subst hO; rfl))⟩,h⟩
 rintro tm m ⟨j42,hs,h⟩
 unfold p45_2 at h
 obtain ⟨rfl,rfl⟩ := hs
 conv => cbv
 refine br_h hO h (by subst hO; rfl) (fun hc1 h => ?_) (fun hc1 h => ?_)
 conv => cbv
 refine z0b hO ?_
 conv => cbv
 refine z0i hO tiA [[11000],[],[],[],[]] [(0,true,false),(1,true,false),(2,true,false),(3,true,false),(4,true,false),(5,false,false),(6,true,false),(7,false,false),(8,false,true),(9,true,true),(10,false,true)] (by kernel_rfl) ?_
 conv => cbv
 refine z0c hO [.ref 2,.shut] (d_p95 fu O.len hN h) ?_
 intro os Q hos hQ
 conv => cbv
 refine ⟨(by (rw [hos]) <;> (subst hO; rfl)),?_⟩
 intro r bs hq
 rw [hQ] at hq
 clear hos hQ h
 obtain ⟨y43,y44,y45,_,⟨rfl,rfl⟩,h⟩ := hq
 conv => cbv
 refine ⟨z0e hO (Nat.le_of_ble_eq_true rfl) rfl,?_⟩
 refine tob_h hO h (by subst hO; rfl) (fun s46 h => ?_)
 conv => cbv
 refine ⟨z0e hO (Nat.le_of_ble_eq_true rfl) rfl,?_⟩
 refine z0v hO h (fun g => (by subst hO; exact g)) (fun h => ?_)
 conv => cbv
 refine ⟨(by subst hO; rfl),?_⟩
 refine and_h h (fun g => (by subst hO; exact g)) (fun h => ?_)
 refine z0b hO ?_
 conv => cbv
 exact hLn1 n1 _ _ (Nat.lt_succ_self n1) ⟨y44,y45,(z40 ++ (List.take 1 [[(CV.v (.string s46))]])),z0d .sub .i64 z41 1,(.inr ⟨(by (conv => lhs; cbv) <;> (subst hO; rfl)),(by (conv => lhs; cbv) <;> (subst hO; rfl))⟩),h⟩
 conv => cbv
 refine z0l hO tiA [2,5,117] [3000,6000,102000] [] (fun tm m => ∃ (j47 : Bool),((tm = frame 0 120 [(2,.p 3000 0 0),(5,.p 6000 0 0),(117,.c (.v (.bool j47)))] ∧ m = ⟨[(3000,.blk 0 [.c (.v (.int .i64 0)),.c (.v (.int .u64 0)),.c (.v (.int .u64 0)),.c (.v (.int .i64 0)),.c (.v (.int .i64 0)),.c (.v (.bool false)),.c (.v (.int .i64 0)),.c (.v (.int .i64 0)),.c (.v (.string ⟨#[]⟩)),.c (.sl 3 [] (some [])),.c (.sl 5 [] (some [])),.c (.v (.int .i64 0)),.c (.sl 1 [] (some []))]),(6000,.blk 0 [.c (.v (.int .i64 y1)),.c (.v (.int .u64 y4)),.c (.v (.int .u64 y7)),.c (.v (.int .i64 y10)),.c (.v (.int .i64 y13)),.c (.v (.bool j21)),.c (.v (.int .i64 j25)),.c (.v (.int .i64 j26)),.c (.v (.string j27)),.c (.sl 3 [] (some [])),.c (.sl 5 [] (some [])),.c (.v (.int .i64 y30)),.t 102000 0 (O.len z40)]),(102000,.arr 0 1 z40 none false)],1⟩)) ∧ p45_1 False fu K0 y1 y4 y7 y10 y13 j21 j25 j26 j27 nilE nilE y30 z40 j47) (fun L hL_1 => ?_) ?_
 conv => cbv
 refine br_h hO h (by subst hO; rfl) (fun hc3 h => ?_) (fun hc3 h => ?_)
 conv => cbv
 refine br_t hO hc3 ?_
 conv => cbv
 refine br_t hO hc3 ?_
 conv => cbv
 refine br_t hO hc3 ?_
 conv => cbv
 refine br_t hO hc3 ?_
 conv => cbv
 refine br_t hO hc3 ?_
 conv => cbv
 refine br_t hO hc3 ?_
 conv => cbv
 refine br_t hO hc3 ?_
 conv => cbv
 exact hL_1 _ _ ⟨true,⟨(by (conv => lhs; cbv) <;> (subst hO; rfl)),(by (conv => lhs; cbv) <;> (subst hO; rfl))⟩,h⟩
 conv => cbv
 refine br_f hO hc3 ?_
 conv => cbv
 refine br_f hO hc3 ?_
 conv => cbv
 refine br_f hO hc3 ?_
 conv => cbv
 refine br_f hO hc3 ?_
 conv => cbv
 refine br_f hO hc3 ?_
 conv => cbv
 refine br_f hO hc3 ?_
 conv => cbv
 refine br_f hO hc3 ?_
 conv => cbv
 exact hL_1 _ _ ⟨(z0a .gtr ((z38.length : Nat) : Int) 0),⟨(by (conv => lhs; cbv) <;> (subst hO; rfl)),(by (conv => lhs; cbv) <;> (subst hO; rfl))⟩,h⟩
 rintro tm m ⟨j47,hs,h⟩
 unfold p45_1 at h
 obtain ⟨rfl,rfl⟩ := hs
 conv => cbv
 refine br_h hO h (by subst hO; rfl) (fun hc2 h => ?_) (fun hc2 h => ?_)
 conv => cbv
 rw [hQ]
 exact ⟨0,0,0,0,0,false,0,0,⟨#[]⟩,nilE,nilE,0,nilE,5,_,⟨(by subst hO; rfl),(by subst hO; rfl)⟩,h⟩
 conv => cbv
 refine z0b hO ?_
 conv => cbv
 refine z0m hO ?_
 conv => cbv
 rw [hQ]
 exact ⟨y1,y4,y7,y10,y13,j21,j25,j26,j27,nilE,nilE,y30,z40,0,_,⟨(by subst hO; rfl),(by subst hO; rfl)⟩,h⟩)
def p37_1 {ρ : Type} (fail : ρ) (fu : Nat) (s_p37 : (Bool → ρ) → Int → Int → EL → Int → Int → EL → ρ) (K0 : Bool → ρ) (rec1 : Int → ρ) (x2 x5 : EL) (z2 : Int) : ρ :=
 bif (z0a .lss z2 ((x2.length : Nat) : Int)) then (gd ((0 : Int) ≤ z2) fail (gd ((z2 : Int) < (x2.length : Nat)) fail (z0q fail (List.getD x2 ((z2 : Int).toNat) []) (fun c3 c4 c5 => gd ((0 : Int) ≤ z2) fail (gd ((z2 : Int) < (x5.length : Nat)) fail (z0q fail (List.getD x5 ((z2 : Int).toNat) []) (fun c6 c7 c8 => s_p37 (fun y9 => bif (!y9) then (K0 false) else (rec1 (z0d .add .i64 z2 1))) c3 c4 c5 c6 c7 c8))))))) else (K0 true)
def p37_1L {ρ : Type} (fail : ρ) (fu : Nat) (s_p37 : (Bool → ρ) → Int → Int → EL → Int → Int → EL → ρ) (K0 : Bool → ρ) (x2 x5 : EL) : Nat → Int → ρ
 | 0,_ => fail
 | n + 1,z2 => p37_1 fail fu s_p37 K0 (p37_1L fail fu s_p37 K0 x2 x5 n) x2 x5 z2
def p37_2 {ρ : Type} (fail : ρ) (fu : Nat) (s_p37 : (Bool → ρ) → Int → Int → EL → Int → Int → EL → ρ) (K0 : Bool → ρ) (x2 x5 : EL) (j1 : Bool) : ρ :=
 bif j1 then (K0 false) else (p37_1L fail fu s_p37 K0 x2 x5 fu 0)
def p37_b {ρ : Type} (fail : ρ) (fu : Nat) (s_p37 : (Bool → ρ) → Int → Int → EL → Int → Int → EL → ρ) (K0 : Bool → ρ) (x0 x1 : Int) (x2 : EL) (x3 x4 : Int) (x5 : EL) : ρ :=
 bif (z0a .neq x0 x3) then (p37_2 fail fu s_p37 K0 x2 x5 true) else (bif (z0a .neq x1 x4) then (p37_2 fail fu s_p37 K0 x2 x5 true) else (p37_2 fail fu s_p37 K0 x2 x5 (z0a .neq ((x2.length : Nat) : Int) ((x5.length : Nat) : Int))))
def p37 {ρ : Type} (fail : ρ) : Nat → (Bool → ρ) → Int → Int → EL → Int → Int → EL → ρ
 | 0,_,_,_,_,_,_,_ => fail
 | n + 1,K0,x0,x1,x2,x3,x4,x5 => p37_b fail n (p37 fail n) K0 x0 x1 x2 x3 x4 x5
def p19_1 {ρ : Type} (fail : ρ) (fu : Nat) (s_p19 : (Bool → ρ) → Int → Int → ByteArray → EL → EL → Int → Int → ByteArray → EL → EL → ρ) (K0 : Bool → ρ) (rec2 : Int → ρ) (x4 x9 : EL) (z10 : Int) : ρ :=
 bif (z0a .lss z10 ((x4.length : Nat) : Int)) then (gd ((0 : Int) ≤ z10) fail (gd ((z10 : Int) < (x4.length : Nat)) fail (z0j fail (List.getD x4 ((z10 : Int).toNat) []) (fun c11 c12 c13 c14 c15 => gd ((0 : Int) ≤ z10) fail (gd ((z10 : Int) < (x9.length : Nat)) fail (z0j fail (List.getD x9 ((z10 : Int).toNat) []) (fun c16 c17 c18 c19 c20 => s_p19 (fun y21 => bif (!y21) then (K0 false) else (rec2 (z0d .add .i64 z10 1))) c11 c12 c13 c14 c15 c16 c17 c18 c19 c20))))))) else (K0 true)
def p19_1L {ρ : Type} (fail : ρ) (fu : Nat) (s_p19 : (Bool → ρ) → Int → Int → ByteArray → EL → EL → Int → Int → ByteArray → EL → EL → ρ) (K0 : Bool → ρ) (x4 x9 : EL) : Nat → Int → ρ
 | 0,_ => fail
 | n + 1,z10 => p19_1 fail fu s_p19 K0 (p19_1L fail fu s_p19 K0 x4 x9 n) x4 x9 z10
def p19_2 {ρ : Type} (fail : ρ) (fu : Nat) (s_p19 : (Bool → ρ) → Int → Int → ByteArray → EL → EL → Int → Int → ByteArray → EL → EL → ρ) (K0 : Bool → ρ) (rec1 : Int → ρ) (x3 x4 x8 x9 : EL) (z2 : Int) : ρ :=
 bif (z0a .lss z2 ((x3.length : Nat) : Int)) then (gd ((0 : Int) ≤ z2) fail (gd ((z2 : Int) < (x3.length : Nat)) fail (z0q fail (List.getD x3 ((z2 : Int).toNat) []) (fun c3 c4 c5 => gd ((0 : Int) ≤ z2) fail (gd ((z2 : Int) < (x8.length : Nat)) fail (z0q fail (List.getD x8 ((z2 : Int).toNat) []) (fun c6 c7 c8 => p37 fail fu (fun y9 => bif (!y9) then (K0 false) else (rec1 (z0d .add .i64 z2 1))) c3 c4 c5 c6 c7 c8))))))) else (p19_1L fail fu s_p19 K0 x4 x9 fu 0)
def p19_2L {ρ : Type} (fail : ρ) (fu : Nat) (s_p19 : (Bool → ρ) → Int → Int → ByteArray → EL → EL → Int → Int → ByteArray → EL → EL → ρ) (K0 : Bool → ρ) (x3 x4 x8 x9 : EL) : Nat → Int → ρ
 | 0,_ => fail
 | n + 1,z2 => p19_2 fail fu s_p19 K0 (p19_2L fail fu s_p19 K0 x3 x4 x8 x9 n) x3 x4 x8 x9 z2
def p19_3 {ρ : Type} (fail : ρ) (fu : Nat) (s_p19 : (Bool → ρ) → Int → Int → ByteArray → EL → EL → Int → Int → ByteArray → EL → EL → ρ) (K0 : Bool → ρ) (x3 x4 x8 x9 : EL) (j1 : Bool) : ρ :=
 bif j1 then (K0 false) else (p19_2L fail fu s_p19 K0 x3 x4 x8 x9 fu 0)
def p19_b {ρ : Type} (fail : ρ) (fu : Nat) (s_p19 : (Bool → ρ) → Int → Int → ByteArray → EL → EL → Int → Int → ByteArray → EL → EL → ρ) (K0 : Bool → ρ) (x0 x1 : Int) (x2 : ByteArray) (x3 x4 : EL) (x5 x6 : Int) (x7 : ByteArray) (x8 x9 : EL) : ρ :=
 bif (z0a .neq x0 x5) then (p19_3 fail fu s_p19 K0 x3 x4 x8 x9 true) else (bif (z0a .neq x1 x6) then (p19_3 fail fu s_p19 K0 x3 x4 x8 x9 true) else (bif (z2f .neq x2 x7) then (p19_3 fail fu s_p19 K0 x3 x4 x8 x9 true) else (bif (z0a .neq ((x3.length : Nat) : Int) ((x8.length : Nat) : Int)) then (p19_3 fail fu s_p19 K0 x3 x4 x8 x9 true) else (p19_3 fail fu s_p19 K0 x3 x4 x8 x9 (z0a .neq ((x4.length : Nat) : Int) ((x9.length : Nat) : Int))))))
def p19 {ρ : Type} (fail : ρ) : Nat → (Bool → ρ) → Int → Int → ByteArray → EL → EL → Int → Int → ByteArray → EL → EL → ρ
 | 0,_,_,_,_,_,_,_,_,_,_,_ => fail
 | n + 1,K0,x0,x1,x2,x3,x4,x5,x6,x7,x8,x9 => p19_b fail n (p19 fail n) K0 x0 x1 x2 x3 x4 x5 x6 x7 x8 x9
def p130_1 {ρ : Type} (fail : ρ) (fu : Nat) (K0 : Bool → ρ) (rec1 : Int → ρ) (x0 x1 : EL) (z1 : Int) : ρ :=
 bif (z0a .lss z1 ((x0.length : Nat) : Int)) then (gd ((0 : Int) ≤ z1) fail (gd ((z1 : Int) < (x0.length : Nat)) fail (rw_s fail (List.getD x0 ((z1 : Int).toNat) []) (fun c2 => gd ((0 : Int) ≤ z1) fail (gd ((z1 : Int) < (x1.length : Nat)) fail (rw_s fail (List.getD x1 ((z1 : Int).toNat) []) (fun c3 => bif (z2f .neq c2 c3) then (K0 false) else (rec1 (z0d .add .i64 z1 1))))))))) else (K0 true)
def p130_1L {ρ : Type} (fail : ρ) (fu : Nat) (K0 : Bool → ρ) (x0 x1 : EL) : Nat → Int → ρ
 | 0,_ => fail
 | n + 1,z1 => p130_1 fail fu K0 (p130_1L fail fu K0 x0 x1 n) x0 x1 z1
def p130 {ρ : Type} (fail : ρ) (fu : Nat) (K0 : Bool → ρ) (x0 x1 : EL) : ρ :=
 bif (z0a .neq ((x0.length : Nat) : Int) ((x1.length : Nat) : Int)) then (K0 false) else (p130_1L fail fu K0 x0 x1 fu 0)
def p99_1 {ρ : Type} (fail : ρ) (fu : Nat) (K0 : Bool → ρ) (j1 : Bool) : ρ :=
 K0 j1
def p99 {ρ : Type} (fail : ρ) (fu : Nat) (K0 : Bool → ρ) (x0 x1 x2 x3 x4 : Int) (x5 : Bool) (x6 x7 : Int) (x8 : ByteArray) (x9 x10 : EL) (x11 : Int) (x12 : EL) (x13 x14 x15 x16 x17 : Int) (x18 : Bool) (x19 x20 : Int) (x21 : ByteArray) (x22 x23 : EL) (x24 : Int) (x25 : EL) : ρ :=
 bif (z0a .eql x0 x13) then (bif ((z0a .eql x1 x14) && ((z0a .eql x2 x15) && true)) then (bif (z0a .eql x3 x16) then (bif (z0a .eql x4 x17) then (bif (x5 == x18) then (bif (z0a .eql x11 x24) then (p19 fail fu (fun y2 => bif y2 then (p130 fail fu (fun y3 => p99_1 fail fu K0 y3) x12 x25) else (p99_1 fail fu K0 false)) x6 x7 x8 x9 x10 x19 x20 x21 x22 x23) else (p99_1 fail fu K0 false)) else (p99_1 fail fu K0 false)) else (p99_1 fail fu K0 false)) else (p99_1 fail fu K0 false)) else (p99_1 fail fu K0 false)) else (p99_1 fail fu K0 false)
def p47 {ρ : Type} (fail : ρ) (fu : Nat) (K0 : Bool → ρ) (x0 x1 x2 x3 x4 : Int) (x5 : Bool) (x6 x7 : Int) (x8 : ByteArray) (x9 x10 : EL) (x11 : Int) (x12 : EL) (x13 x14 x15 x16 x17 : Int) (x18 : Bool) (x19 x20 : Int) (x21 : ByteArray) (x22 x23 : EL) (x24 : Int) (x25 : EL) : ρ :=
 p99 fail fu (fun y1 => K0 y1) x0 x1 x2 x3 x4 x5 x6 x7 x8 x9 x10 x11 x12 x13 x14 x15 x16 x17 x18 x19 x20 x21 x22 x23 x24 x25
def D_p37 (fu : Nat) : Prop := ∀ {K0 : Bool → Prop} (L : EL → Nat) (_ : L = List.length) {x0 x1 : Int} {x2 : EL} {x3 x4 : Int} {x5 : EL} (_ : p37 False fu K0 x0 x1 x2 x3 x4 x5),Den Try.prog G0 37 [.agg [.c (.v (.int .i64 x0)),.c (.v (.int .i64 x1)),.c (.sl 3 x2 none)],.agg [.c (.v (.int .i64 x3)),.c (.v (.int .i64 x4)),.c (.sl 3 x5 none)]] (fun r bs => (∃ (y0 : Bool) (o0 o1 : OV),(r = .c (.v (.bool y0)) ∧ bs = [o0,o1]) ∧ K0 y0))
theorem b_p37 (fu : Nat) (ih_p37 : D_p37 fu) {K0 : Bool → Prop} (L : EL → Nat) (hN : L = List.length) {x0 x1 : Int} {x2 : EL} {x3 x4 : Int} {x5 : EL} (h : p37_b False fu (p37 False fu) K0 x0 x1 x2 x3 x4 x5) : Den Try.prog G0 37 [.agg [.c (.v (.int .i64 x0)),.c (.v (.int .i64 x1)),.c (.sl 3 x2 none)],.agg [.c (.v (.int .i64 x3)),.c (.v (.int .i64 x4)),.c (.sl 3 x5 none)]] (fun r bs => (∃ (y0 : Bool) (o0 o1 : OV),(r = .c (.v (.bool y0)) ∧ bs = [o0,o1]) ∧ K0 y0)) := by
 obtain ⟨O,hO⟩ : ∃ O,O = std 0 T G0 (Den Try.prog G0) := ⟨_,rfl⟩
 have hLO : L = O.len := by rw [hN,hO]; rfl
 subst hLO
 refine den_h hO tiA mixed tabOk (fn := Try.f37) (sh := true) (by kernel_rfl) rfl rfl rfl rfl ?_
 intro Q hQ
 unfold p37_b at h
 conv => cbv
 refine z0l hO tiA [2,3,26] [3000,4000] [] (fun tm m => ∃ (j1 : Bool),((tm = frame 0 46 [(2,.p 3000 0 0),(3,.p 4000 0 0),(26,.c (.v (.bool j1)))] ∧ m = ⟨[(3000,.blk 0 [.c (.v (.int .i64 x0)),.c (.v (.int .i64 x1)),.c (.sl 3 x2 none)]),(4000,.blk 0 [.c (.v (.int .i64 x3)),.c (.v (.int .i64 x4)),.c (.sl 3 x5 none)])],1⟩)) ∧ p37_2 False fu (p37 False fu) K0 x2 x5 j1) (fun L hL_2 => ?_) ?_
 conv => cbv
 refine br_h hO h (by subst hO; rfl) (fun hc4 h => ?_) (fun hc4 h => ?_)
 conv => cbv
 refine br_t hO hc4 ?_
 conv => cbv
 refine br_t hO hc4 ?_
 conv => cbv
 refine br_t hO hc4 ?_
 conv => cbv
 refine br_t hO hc4 ?_
 conv => cbv
 refine br_t hO hc4 ?_
 conv => cbv
 refine br_t hO rfl ?_
 conv => cbv
 refine br_t hO rfl ?_
 conv => cbv
 refine br_t hO rfl ?_
 conv => cbv
 refine br_t hO rfl ?_
 conv => cbv
 refine br_t hO rfl ?_
 conv => cbv
 refine br_t hO rfl ?_
 conv => cbv
 refine br_t hO rfl ?_
 conv => cbv
 refine br_t hO rfl ?_
 conv => cbv
 exact hL_2 _ _ ⟨true,⟨(by (conv => lhs; cbv) <;> (subst hO; rfl)),(by (conv => lhs; cbv) <;> (subst hO; rfl))⟩,h⟩
 conv => cbv
 refine br_f hO hc4 ?_
 conv => cbv
 refine br_f hO hc4 ?_
 conv => cbv
 refine br_f hO hc4 ?_
 conv => cbv
 refine br_f hO hc4 ?_
 conv => cbv
 refine br_f hO hc4 ?_
 conv => cbv
 refine br_h hO h (by subst hO; rfl) (fun hc5 h => ?_) (fun hc5 h => ?_)
 conv => cbv
 refine br_t hO hc5 ?_
 conv => cbv
 refine br_t hO hc5 ?_
 conv => cbv
 refine br_t hO hc5 ?_
 conv => cbv
 refine br_t hO hc5 ?_
 conv => cbv
 refine br_t hO hc5 ?_
 conv => cbv
 refine br_t hO hc5 ?_
 conv => cbv
 refine br_t hO hc5 ?_
 conv => cbv
 exact hL_2 _ _ ⟨true,⟨(by (conv => lhs; cbv) <;> (subst hO; rfl)),(by (conv => lhs; cbv) <;> (subst hO; rfl))⟩,h⟩
 conv => cbv
 refine br_f hO hc5 ?_
 conv => cbv
 refine br_f hO hc5 ?_
 conv => cbv
 refine br_f hO hc5 ?_
 conv => cbv
 refine br_f hO hc5 ?_
 conv => cbv
 refine br_f hO hc5 ?_
 conv => cbv
 refine br_f hO hc5 ?_
 conv => cbv
 refine br_f hO hc5 ?_
 conv => cbv
 exact hL_2 _ _ ⟨(z0a .neq ((x2.length : Nat) : Int) ((x5.length : Nat) : Int)),⟨(by (conv => lhs; cbv) <;> (subst hO; rfl)),(by (conv => lhs; cbv) <;> (subst hO; rfl))⟩,h⟩
 rintro tm m ⟨j1,hs,h⟩
 unfold p37_2 at h
 obtain ⟨rfl,rfl⟩ := hs
 conv => cbv
 refine br_h hO h (by subst hO; rfl) (fun hc1 h => ?_) (fun hc1 h => ?_)
 conv => cbv
 rw [hQ]
 exact ⟨false,_,_,⟨(by subst hO; rfl),(by subst hO; rfl)⟩,h⟩
 conv => cbv
 refine z0b hO ?_
 conv => cbv
 refine z0s hO tiA [2,3,5] [3000,4000] [] (fun (n : Nat) tm m => ∃ (z2 : Int),((tm = frame 0 46 [(2,.p 3000 0 0),(3,.p 4000 0 0),(5,.c (.v (.int .i64 z2)))] ∧ m = ⟨[(3000,.blk 0 [.c (.v (.int .i64 x0)),.c (.v (.int .i64 x1)),.c (.sl 3 x2 none)]),(4000,.blk 0 [.c (.v (.int .i64 x3)),.c (.v (.int .i64 x4)),.c (.sl 3 x5 none)])],1⟩)) ∧ p37_1L False fu (p37 False fu) K0 x2 x5 n z2) (fun n => n) fu ⟨0,⟨(by (conv => lhs; cbv) <;> (subst hO; rfl)),(by (conv => lhs; cbv) <;> (subst hO; rfl))⟩,h⟩ ?_
 rintro n1 tm m L ⟨z2,hs,h⟩ hLn1
 (cases n1 with
 | zero => rw [p37_1L] at h; exact h.elim
 | succ n1 =>
 rw [p37_1L] at h
 unfold p37_1 at h
 obtain ⟨rfl,rfl⟩ := hs
 conv => cbv
 refine br_h hO h (by subst hO; rfl) (fun hc2 h => ?_) (fun hc2 h => ?_)
 conv => cbv
 refine z0b hO ?_
 conv => cbv
 refine z0i hO tiA [[],[]] [(0,true,false),(1,true,false),(2,true,false),(3,true,false),(4,true,false),(5,true,false),(6,true,false),(7,true,false),(8,true,false),(9,true,false),(10,false,true),(11,true,true)] (by kernel_rfl) ?_
 conv => cbv
 refine and_h h (fun g => (by subst hO; exact g)) (fun h => ?_)
 refine and_h h (fun g => (by subst hO; exact g)) (fun h => ?_)
 obtain ⟨c3,c4,c5,hr,h⟩ := z0k h
 refine z0o hO _ (by subst hO; exact hr) ?_
 clear hr
 conv => cbv
 refine and_h h (fun g => (by subst hO; exact g)) (fun h => ?_)
 refine and_h h (fun g => (by subst hO; exact g)) (fun h => ?_)
 obtain ⟨c6,c7,c8,hr,h⟩ := z0k h
 refine z0o hO _ (by subst hO; exact hr) ?_
 clear hr
 conv => cbv
 refine z0c hO [.shut,.shut] (ih_p37 O.len hN h) ?_
 intro os Q hos hQ
 conv => cbv
 refine ⟨(by (rw [hos]) <;> (subst hO; rfl)),?_⟩
 intro r bs hq
 rw [hQ] at hq
 clear hos hQ h
 obtain ⟨y9,_,_,⟨rfl,rfl⟩,h⟩ := hq
 conv => cbv
 refine z0b hO ?_
 conv => cbv
 refine br_h hO h (by subst hO; rfl) (fun hc3 h => ?_) (fun hc3 h => ?_)
 conv => cbv
 rw [hQ]
 exact ⟨false,_,_,⟨(by subst hO; rfl),(by subst hO; rfl)⟩,h⟩
 conv => cbv
 refine z0b hO ?_
 conv => cbv
 exact hLn1 n1 _ _ (Nat.lt_succ_self n1) ⟨z0d .add .i64 z2 1,⟨(by (conv => lhs; cbv) <;> (subst hO; rfl)),(by (conv => lhs; cbv) <;> (subst hO; rfl))⟩,h⟩
 conv => cbv
 rw [hQ]
 exact ⟨true,_,_,⟨(by subst hO; rfl),(by subst hO; rfl)⟩,h⟩)
theorem dd_p37 (fu : Nat) : D_p37 fu := by
 induction fu with
 | zero => unfold D_p37; intros; rename_i h; rw [p37] at h; exact h.elim
 | succ n ih =>
  exact (by unfold D_p37; intro K0 L hN x0 x1 x2 x3 x4 x5 h; exact b_p37 n ih L hN (by rw [p37] at h; exact h))
theorem d_p37 (fu : Nat) : D_p37 fu := dd_p37 fu
def D_p19 (fu : Nat) : Prop := ∀ {K0 : Bool → Prop} (L : EL → Nat) (_ : L = List.length) {x0 x1 : Int} {x2 : ByteArray} {x3 x4 : EL} {x5 x6 : Int} {x7 : ByteArray} {x8 x9 : EL} (_ : p19 False fu K0 x0 x1 x2 x3 x4 x5 x6 x7 x8 x9),Den Try.prog G0 19 [.agg [.c (.v (.int .i64 x0)),.c (.v (.int .i64 x1)),.c (.v (.string x2)),.c (.sl 3 x3 none),.c (.sl 5 x4 none)],.agg [.c (.v (.int .i64 x5)),.c (.v (.int .i64 x6)),.c (.v (.string x7)),.c (.sl 3 x8 none),.c (.sl 5 x9 none)]] (fun r bs => (∃ (y0 : Bool) (o0 o1 : OV),(r = .c (.v (.bool y0)) ∧ bs = [o0,o1]) ∧ K0 y0))
theorem b_p19 (fu : Nat) (ih_p19 : D_p19 fu) {K0 : Bool → Prop} (L : EL → Nat) (hN : L = List.length) {x0 x1 : Int} {x2 : ByteArray} {x3 x4 : EL} {x5 x6 : Int} {x7 : ByteArray} {x8 x9 : EL} (h : p19_b False fu (p19 False fu) K0 x0 x1 x2 x3 x4 x5 x6 x7 x8 x9) : Den Try.prog G0 19 [.agg [.c (.v (.int .i64 x0)),.c (.v (.int .i64 x1)),.c (.v (.string x2)),.c (.sl 3 x3 none),.c (.sl 5 x4 none)],.agg [.c (.v (.int .i64 x5)),.c (.v (.int .i64 x6)),.c (.v (.string x7)),.c (.sl 3 x8 none),.c (.sl 5 x9 none)]] (fun r bs => (∃ (y0 : Bool) (o0 o1 : OV),(r = .c (.v (.bool y0)) ∧ bs = [o0,o1]) ∧ K0 y0)) := by
 obtain ⟨O,hO⟩ : ∃ O,O = std 0 T G0 (Den Try.prog G0) := ⟨_,rfl⟩
 have hLO : L = O.len := by rw [hN,hO]; rfl
 subst hLO
 refine den_h hO tiA mixed tabOk (fn := Try.f19) (sh := true) (by kernel_rfl) rfl rfl rfl rfl ?_
 intro Q hQ
 unfold p19_b at h
 conv => cbv
 refine z0l hO tiA [2,3,43] [3000,4000] [] (fun tm m => ∃ (j1 : Bool),((tm = frame 0 82 [(2,.p 3000 0 0),(3,.p 4000 0 0),(43,.c (.v (.bool j1)))] ∧ m = ⟨[(3000,.blk 0 [.c (.v (.int .i64 x0)),.c (.v (.int .i64 x1)),.c (.v (.string x2)),.c (.sl 3 x3 none),.c (.sl 5 x4 none)]),(4000,.blk 0 [.c (.v (.int .i64 x5)),.c (.v (.int .i64 x6)),.c (.v (.string x7)),.c (.sl 3 x8 none),.c (.sl 5 x9 none)])],1⟩)) ∧ p19_3 False fu (p19 False fu) K0 x3 x4 x8 x9 j1) (fun L hL_3 => ?_) ?_
 conv => cbv
 refine br_h hO h (by subst hO; rfl) (fun hc6 h => ?_) (fun hc6 h => ?_)
 conv => cbv
 refine br_t hO hc6 ?_
 conv => cbv
 refine br_t hO hc6 ?_
 conv => cbv
 refine br_t hO hc6 ?_
 conv => cbv
 refine br_t hO hc6 ?_
 conv => cbv
 refine br_t hO hc6 ?_
 conv => cbv
 refine br_t hO rfl ?_
 conv => cbv
 refine br_t hO rfl ?_
 conv => cbv
 refine br_t hO rfl ?_
 conv => cbv
 refine br_t hO rfl ?_
 conv => cbv
 refine br_t hO rfl ?_
 conv => cbv
 refine br_t hO rfl ?_
 conv => cbv
 refine br_t hO rfl ?_
 conv => cbv
 refine br_t hO rfl ?_
 conv => cbv
 refine br_t hO rfl ?_
 conv => cbv
 refine br_t hO rfl ?_
 conv => cbv
 refine br_t hO rfl ?_
 conv => cbv
 refine br_t hO rfl ?_
 conv => cbv
 refine br_t hO rfl ?_
 conv => cbv
 refine br_t hO rfl ?_
 conv => cbv
 refine br_t hO rfl ?_
 conv => cbv
 refine br_t hO rfl ?_
 conv => cbv
 refine br_t hO rfl ?_
 conv => cbv
 refine br_t hO rfl ?_
 conv => cbv
 refine br_t hO rfl ?_
 conv => cbv
 refine br_t hO rfl ?_
 conv => cbv
 refine br_t hO rfl ?_
 conv => cbv
 refine br_t hO rfl ?_
 conv => cbv
 exact hL_3 _ _ ⟨true,⟨(by (conv => lhs; cbv) <;> (subst hO; rfl)),(by (conv => lhs; cbv) <;> (subst hO; rfl))⟩,h⟩
 conv => cbv
 refine br_f hO hc6 ?_
 conv => cbv
 refine br_f hO hc6 ?_
 conv => cbv
 refine br_f hO hc6 ?_
 conv => cbv
 refine br_f hO hc6 ?_
 conv => cbv
 refine br_f hO hc6 ?_
 conv => cbv
 refine br_h hO h (by subst hO; rfl) (fun hc7 h => ?_) (fun hc7 h => ?_)
 conv => cbv
 refine br_t hO hc7 ?_
 conv => cbv
 refine br_t hO hc7 ?_
 conv => cbv
 refine br_t hO hc7 ?_
 conv => cbv
 refine br_t hO hc7 ?_
 conv => cbv
 refine br_t hO hc7 ?_
 conv => cbv
 refine br_t hO rfl ?_
 conv => cbv
 refine br_t hO rfl ?_
 conv => cbv
 refine br_t hO rfl ?_
 conv => cbv
 refine br_t hO rfl ?_
 conv => cbv
 refine br_t hO rfl ?_
 conv => cbv
 refine br_t hO rfl ?_
 conv => cbv
 refine br_t hO rfl ?_
 conv => cbv
 refine br_t hO rfl ?_
 conv => cbv
 refine br_t hO rfl ?_
 conv => cbv
 refine br_t hO rfl ?_
 conv => cbv
 refine br_t hO rfl ?_
 conv => cbv
 refine br_t hO rfl ?_
 conv => cbv
 refine br_t hO rfl ?_
 conv => cbv
 refine br_t hO rfl ?_
 conv => cbv
 refine br_t hO rfl ?_
 conv => cbv
 refine br_t hO rfl ?_
 conv => cbv
 exact hL_3 _ _ ⟨true,⟨(by (conv => lhs; cbv) <;> (subst hO; rfl)),(by (conv => lhs; cbv) <;> (subst hO; rfl))⟩,h⟩
 conv => cbv
 refine br_f hO hc7 ?_
 conv => cbv
 refine br_f hO hc7 ?_
 conv => cbv
 refine br_f hO hc7 ?_
 conv => cbv
 refine br_f hO hc7 ?_
 conv => cbv
 refine br_f hO hc7 ?_
 conv => cbv
 refine br_h hO h (by subst hO; rfl) (fun hc8 h => ?_) (fun hc8 h => ?_)
 conv => cbv
 refine br_t hO hc8 ?_
 conv => cbv
 refine br_t hO hc8 ?_
 conv => cbv
 refine br_t hO hc8 ?_
 conv => cbv
 refine br_t hO hc8 ?_
 conv => cbv
 refine br_t hO hc8 ?_
 conv => cbv
 refine br_t hO hc8 ?_
 conv => cbv
 refine br_t hO hc8 ?_
 conv => cbv
 refine br_t hO rfl ?_
 conv => cbv
 refine br_t hO rfl ?_
 conv => cbv
 refine br_t hO rfl ?_
 conv => cbv
 refine br_t hO rfl ?_
 conv => cbv
 refine br_t hO rfl ?_
 conv => cbv
 refine br_t hO rfl ?_
 conv => cbv
 refine br_t hO rfl ?_
 conv => cbv
 refine br_t hO rfl ?_
 conv => cbv
 exact hL_3 _ _ ⟨true,⟨(by (conv => lhs; cbv) <;> (subst hO; rfl)),(by (conv => lhs; cbv) <;> (subst hO; rfl))⟩,h⟩
 conv => cbv
 refine br_f hO hc8 ?_
 conv => cbv
 refine br_f hO hc8 ?_
 conv => cbv
 refine br_f hO hc8 ?_
 conv => cbv
 refine br_f hO hc8 ?_
 conv => cbv
 refine br_f hO hc8 ?_
 conv => cbv
 refine br_f hO hc8 ?_
 conv => cbv
 refine br_f hO hc8 ?_
 conv => cbv
 refine br_h hO h (by subst hO; rfl) (fun hc9 h => ?_) (fun hc9 h => ?_)
 conv => cbv
 refine br_t hO hc9 ?_
 conv => cbv
 refine br_t hO hc9 ?_
 conv => cbv
 refine br_t hO hc9 ?_
 conv => cbv
 refine br_t hO hc9 ?_
 conv => cbv
 refine br_t hO hc9 ?_
 conv => cbv
 refine br_t hO hc9 ?_
 conv => cbv
 refine br_t hO hc9 ?_
 conv => cbv
 exact hL_3 _ _ ⟨true,⟨(by (conv => lhs; cbv) <;> (subst hO; rfl)),(by (conv => lhs; cbv) <;> (subst hO; rfl))⟩,h⟩
 conv => cbv
 refine br_f hO hc9 ?_
 conv => cbv
 refine br_f hO hc9 ?_
 conv => cbv
 refine br_f hO hc9 ?_
 conv => cbv
 refine br_f hO hc9 ?_
 conv => cbv
 refine br_f hO hc9 ?_
 conv => cbv
 refine br_f hO hc9 ?_
 conv => cbv
 refine br_f hO hc9 ?_
 conv => cbv
 exact hL_3 _ _ ⟨(z0a .neq ((x4.length : Nat) : Int) ((x9.length : Nat) : Int)),⟨(by (conv => lhs; cbv) <;> (subst hO; rfl)),(by (conv => lhs; cbv) <;> (subst hO; rfl))⟩,h⟩
 rintro tm m ⟨j1,hs,h⟩
 unfold p19_3 at h
 obtain ⟨rfl,rfl⟩ := hs
 conv => cbv
 refine br_h hO h (by subst hO; rfl) (fun hc1 h => ?_) (fun hc1 h => ?_)
 conv => cbv
 rw [hQ]
 exact ⟨false,_,_,⟨(by subst hO; rfl),(by subst hO; rfl)⟩,h⟩
 conv => cbv
 refine z0b hO ?_
 conv => cbv
 refine z0s hO tiA [2,3,5] [3000,4000] [] (fun (n : Nat) tm m => ∃ (z2 : Int),((tm = frame 0 82 [(2,.p 3000 0 0),(3,.p 4000 0 0),(5,.c (.v (.int .i64 z2)))] ∧ m = ⟨[(3000,.blk 0 [.c (.v (.int .i64 x0)),.c (.v (.int .i64 x1)),.c (.v (.string x2)),.c (.sl 3 x3 none),.c (.sl 5 x4 none)]),(4000,.blk 0 [.c (.v (.int .i64 x5)),.c (.v (.int .i64 x6)),.c (.v (.string x7)),.c (.sl 3 x8 none),.c (.sl 5 x9 none)])],1⟩)) ∧ p19_2L False fu (p19 False fu) K0 x3 x4 x8 x9 n z2) (fun n => n) fu ⟨0,⟨(by (conv => lhs; cbv) <;> (subst hO; rfl)),(by (conv => lhs; cbv) <;> (subst hO; rfl))⟩,h⟩ ?_
 rintro n1 tm m L ⟨z2,hs,h⟩ hLn1
 (cases n1 with
 | zero => rw [p19_2L] at h; exact h.elim
 | succ n1 =>
 rw [p19_2L] at h
 unfold p19_2 at h
 obtain ⟨rfl,rfl⟩ := hs
 conv => cbv
 refine br_h hO h (by subst hO; rfl) (fun hc2 h => ?_) (fun hc2 h => ?_)
 conv => cbv
 refine z0b hO ?_
 conv => cbv
 refine z0i hO tiA [[],[]] [(0,true,false),(1,true,false),(2,true,false),(3,true,false),(4,true,false),(5,true,false),(6,true,false),(7,true,false),(8,true,false),(9,true,false),(10,false,true),(11,true,true)] (by kernel_rfl) ?_
 conv => cbv
 refine and_h h (fun g => (by subst hO; exact g)) (fun h => ?_)
 refine and_h h (fun g => (by subst hO; exact g)) (fun h => ?_)
 obtain ⟨c3,c4,c5,hr,h⟩ := z0k h
 refine z0o hO _ (by subst hO; exact hr) ?_
 clear hr
 conv => cbv
 refine and_h h (fun g => (by subst hO; exact g)) (fun h => ?_)
 refine and_h h (fun g => (by subst hO; exact g)) (fun h => ?_)
 obtain ⟨c6,c7,c8,hr,h⟩ := z0k h
 refine z0o hO _ (by subst hO; exact hr) ?_
 clear hr
 conv => cbv
 refine z0c hO [.shut,.shut] (d_p37 fu O.len hN h) ?_
 intro os Q hos hQ
 conv => cbv
 refine ⟨(by (rw [hos]) <;> (subst hO; rfl)),?_⟩
 intro r bs hq
 rw [hQ] at hq
 clear hos hQ h
 obtain ⟨y9,_,_,⟨rfl,rfl⟩,h⟩ := hq
 conv => cbv
 refine z0b hO ?_
 conv => cbv
 refine br_h hO h (by subst hO; rfl) (fun hc3 h => ?_) (fun hc3 h => ?_)
 conv => cbv
 rw [hQ]
 exact ⟨false,_,_,⟨(by subst hO; rfl),(by subst hO; rfl)⟩,h⟩
 conv => cbv
 refine z0b hO ?_
 conv => cbv
 exact hLn1 n1 _ _ (Nat.lt_succ_self n1) ⟨z0d .add .i64 z2 1,⟨(by (conv => lhs; cbv) <;> (subst hO; rfl)),(by (conv => lhs; cbv) <;> (subst hO; rfl))⟩,h⟩
 conv => cbv
 refine z0s hO tiA [2,3,6] [3000,4000] [] (fun (n : Nat) tm m => ∃ (z10 : Int),((tm = frame 0 82 [(2,.p 3000 0 0),(3,.p 4000 0 0),(6,.c (.v (.int .i64 z10)))] ∧ m = ⟨[(3000,.blk 0 [.c (.v (.int .i64 x0)),.c (.v (.int .i64 x1)),.c (.v (.string x2)),.c (.sl 3 x3 none),.c (.sl 5 x4 none)]),(4000,.blk 0 [.c (.v (.int .i64 x5)),.c (.v (.int .i64 x6)),.c (.v (.string x7)),.c (.sl 3 x8 none),.c (.sl 5 x9 none)])],1⟩)) ∧ p19_1L False fu (p19 False fu) K0 x4 x9 n z10) (fun n => n) fu ⟨0,⟨(by (conv => lhs; cbv) <;> (subst hO; rfl)),(by (conv => lhs; cbv) <;> (subst hO; rfl))⟩,h⟩ ?_
 rintro n2 tm m L ⟨z10,hs,h⟩ hLn2
 (cases n2 with
 | zero => rw [p19_1L] at h; exact h.elim
 | succ n2 =>
 rw [p19_1L] at h
 unfold p19_1 at h
 obtain ⟨rfl,rfl⟩ := hs
 conv => cbv
 refine br_h hO h (by subst hO; rfl) (fun hc4 h => ?_) (fun hc4 h => ?_)
 conv => cbv
 refine z0b hO ?_
 conv => cbv
 refine z0i hO tiA [[],[]] [(0,true,false),(1,true,false),(2,true,false),(3,true,false),(4,true,false),(5,true,false),(6,true,false),(7,true,false),(8,true,false),(9,true,false),(10,false,true),(11,true,true)] (by kernel_rfl) ?_
 conv => cbv
 refine and_h h (fun g => (by subst hO; exact g)) (fun h => ?_)
 refine and_h h (fun g => (by subst hO; exact g)) (fun h => ?_)
 obtain ⟨c11,c12,c13,c14,c15,hr,h⟩ := z0g h
 refine z0o hO _ (by subst hO; exact hr) ?_
 clear hr
 conv => cbv
 refine and_h h (fun g => (by subst hO; exact g)) (fun h => ?_)
 refine and_h h (fun g => (by subst hO; exact g)) (fun h => ?_)
 obtain ⟨c16,c17,c18,c19,c20,hr,h⟩ := z0g h
 refine z0o hO _ (by subst hO; exact hr) ?_
 clear hr
 conv => cbv
 refine z0c hO [.shut,.shut] (ih_p19 O.len hN h) ?_
 intro os Q hos hQ
 conv => cbv
 refine ⟨(by (rw [hos]) <;> (subst hO; rfl)),?_⟩
 intro r bs hq
 rw [hQ] at hq
 clear hos hQ h
 obtain ⟨y21,_,_,⟨rfl,rfl⟩,h⟩ := hq
 conv => cbv
 refine z0b hO ?_
 conv => cbv
 refine br_h hO h (by subst hO; rfl) (fun hc5 h => ?_) (fun hc5 h => ?_)
 conv => cbv
 rw [hQ]
 exact ⟨false,_,_,⟨(by subst hO; rfl),(by subst hO; rfl)⟩,h⟩
 conv => cbv
 refine z0b hO ?_
 conv => cbv
 exact hLn2 n2 _ _ (Nat.lt_succ_self n2) ⟨z0d .add .i64 z10 1,⟨(by (conv => lhs; cbv) <;> (subst hO; rfl)),(by (conv => lhs; cbv) <;> (subst hO; rfl))⟩,h⟩
 conv => cbv
 rw [hQ]
 exact ⟨true,_,_,⟨(by subst hO; rfl),(by subst hO; rfl)⟩,h⟩))
theorem dd_p19 (fu : Nat) : D_p19 fu := by
 induction fu with
 | zero => unfold D_p19; intros; rename_i h; rw [p19] at h; exact h.elim
 | succ n ih =>
  exact (by unfold D_p19; intro K0 L hN x0 x1 x2 x3 x4 x5 x6 x7 x8 x9 h; exact b_p19 n ih L hN (by rw [p19] at h; exact h))
theorem d_p19 (fu : Nat) : D_p19 fu := dd_p19 fu
theorem d_p130 (fu : Nat) {K0 : Bool → Prop} (L : EL → Nat) (hN : L = List.length) {x0 x1 : EL} (h : p130 False fu K0 x0 x1) : Den Try.prog G0 130 [.c (.sl 1 x0 none),.c (.sl 1 x1 none)] (fun r bs => (∃ (y0 : Bool) (o0 o1 : OV),(r = .c (.v (.bool y0)) ∧ bs = [o0,o1]) ∧ K0 y0)) := by
 obtain ⟨O,hO⟩ : ∃ O,O = std 0 T G0 (Den Try.prog G0) := ⟨_,rfl⟩
 have hLO : L = O.len := by rw [hN,hO]; rfl
 subst hLO
 refine den_h hO tiA mixed tabOk (fn := Try.f130) (sh := true) (by kernel_rfl) rfl rfl rfl rfl ?_
 intro Q hQ
 unfold p130 at h
 conv => cbv
 refine br_h hO h (by subst hO; rfl) (fun hc1 h => ?_) (fun hc1 h => ?_)
 conv => cbv
 rw [hQ]
 exact ⟨false,_,_,⟨(by subst hO; rfl),(by subst hO; rfl)⟩,h⟩
 conv => cbv
 refine z0b hO ?_
 conv => cbv
 refine z0s hO tiA [0,1,5] [] [] (fun (n : Nat) tm m => ∃ (z1 : Int),((tm = frame 0 26 [(0,.c (.sl 1 x0 none)),(1,.c (.sl 1 x1 none)),(5,.c (.v (.int .i64 z1)))] ∧ m = ⟨[],1⟩)) ∧ p130_1L False fu K0 x0 x1 n z1) (fun n => n) fu ⟨0,⟨(by (conv => lhs; cbv) <;> (subst hO; rfl)),(by (conv => lhs; cbv) <;> (subst hO; rfl))⟩,h⟩ ?_
 rintro n1 tm m L ⟨z1,hs,h⟩ hLn1
 (cases n1 with
 | zero => rw [p130_1L] at h; exact h.elim
 | succ n1 =>
 rw [p130_1L] at h
 unfold p130_1 at h
 obtain ⟨rfl,rfl⟩ := hs
 conv => cbv
 refine br_h hO h (by subst hO; rfl) (fun hc2 h => ?_) (fun hc2 h => ?_)
 conv => cbv
 refine z0b hO ?_
 conv => cbv
 refine z0i hO tiA [[]] [(0,true,false),(1,true,false),(2,true,false),(3,true,false),(4,true,false),(5,true,false),(6,true,false),(7,true,false),(8,true,true)] (by kernel_rfl) ?_
 conv => cbv
 refine and_h h (fun g => (by subst hO; exact g)) (fun h => ?_)
 refine and_h h (fun g => (by subst hO; exact g)) (fun h => ?_)
 obtain ⟨c2,hr,h⟩ := z6c h
 refine z0o hO _ (by subst hO; exact hr) ?_
 clear hr
 conv => cbv
 refine and_h h (fun g => (by subst hO; exact g)) (fun h => ?_)
 refine and_h h (fun g => (by subst hO; exact g)) (fun h => ?_)
 obtain ⟨c3,hr,h⟩ := z6c h
 refine z0o hO _ (by subst hO; exact hr) ?_
 clear hr
 conv => cbv
 refine z0b hO ?_
 conv => cbv
 refine br_h hO h (by subst hO; rfl) (fun hc3 h => ?_) (fun hc3 h => ?_)
 conv => cbv
 rw [hQ]
 exact ⟨false,_,_,⟨(by subst hO; rfl),(by subst hO; rfl)⟩,h⟩
 conv => cbv
 refine z0b hO ?_
 conv => cbv
 exact hLn1 n1 _ _ (Nat.lt_succ_self n1) ⟨z0d .add .i64 z1 1,⟨(by (conv => lhs; cbv) <;> (subst hO; rfl)),(by (conv => lhs; cbv) <;> (subst hO; rfl))⟩,h⟩
 conv => cbv
 rw [hQ]
 exact ⟨true,_,_,⟨(by subst hO; rfl),(by subst hO; rfl)⟩,h⟩)
theorem d_p99 (fu : Nat) {K0 : Bool → Prop} (L : EL → Nat) (hN : L = List.length) {x0 x1 x2 x3 x4 : Int} {x5 : Bool} {x6 x7 : Int} {x8 : ByteArray} {x9 x10 : EL} {x11 : Int} {x12 : EL} {x13 x14 x15 x16 x17 : Int} {x18 : Bool} {x19 x20 : Int} {x21 : ByteArray} {x22 x23 : EL} {x24 : Int} {x25 : EL} (h : p99 False fu K0 x0 x1 x2 x3 x4 x5 x6 x7 x8 x9 x10 x11 x12 x13 x14 x15 x16 x17 x18 x19 x20 x21 x22 x23 x24 x25) : Den Try.prog G0 99 [.agg [.c (.v (.int .i64 x0)),.c (.v (.int .u64 x1)),.c (.v (.int .u64 x2)),.c (.v (.int .i64 x3)),.c (.v (.int .i64 x4)),.c (.v (.bool x5)),.c (.v (.int .i64 x6)),.c (.v (.int .i64 x7)),.c (.v (.string x8)),.c (.sl 3 x9 none),.c (.sl 5 x10 none),.c (.v (.int .i64 x11)),.c (.sl 1 x12 none)],.agg [.c (.v (.int .i64 x13)),.c (.v (.int .u64 x14)),.c (.v (.int .u64 x15)),.c (.v (.int .i64 x16)),.c (.v (.int .i64 x17)),.c (.v (.bool x18)),.c (.v (.int .i64 x19)),.c (.v (.int .i64 x20)),.c (.v (.string x21)),.c (.sl 3 x22 none),.c (.sl 5 x23 none),.c (.v (.int .i64 x24)),.c (.sl 1 x25 none)]] (fun r bs => (∃ (y0 : Bool) (o0 o1 : OV),(r = .c (.v (.bool y0)) ∧ bs = [o0,o1]) ∧ K0 y0)) := by
 obtain ⟨O,hO⟩ : ∃ O,O = std 0 T G0 (Den Try.prog G0) := ⟨_,rfl⟩
 have hLO : L = O.len := by rw [hN,hO]; rfl
 subst hLO
 refine den_h hO tiA mixed tabOk (fn := Try.f99) (sh := true) (by kernel_rfl) rfl rfl rfl rfl ?_
 intro Q hQ
 unfold p99 at h
 conv => cbv
 refine z0l hO tiA [4] [] [] (fun tm m => ∃ (j1 : Bool),((tm = frame 0 59 [(4,.c (.v (.bool j1)))] ∧ m = ⟨[],1⟩)) ∧ p99_1 False fu K0 j1) (fun L hL_1 => ?_) ?_
 conv => cbv
 refine br_h hO h (by subst hO; rfl) (fun hc1 h => ?_) (fun hc1 h => ?_)
 conv => cbv
 refine br_t hO hc1 ?_
 conv => cbv
 refine br_t hO hc1 ?_
 conv => cbv
 refine br_t hO hc1 ?_
 conv => cbv
 refine br_t hO hc1 ?_
 conv => cbv
 refine br_t hO hc1 ?_
 conv => cbv
 refine br_h hO h (by subst hO; rfl) (fun hc2 h => ?_) (fun hc2 h => ?_)
 conv => cbv
 refine br_t hO hc2 ?_
 conv => cbv
 refine br_t hO hc2 ?_
 conv => cbv
 refine br_t hO hc2 ?_
 conv => cbv
 refine br_t hO hc2 ?_
 conv => cbv
 refine br_t hO hc2 ?_
 conv => cbv
 refine br_h hO h (by subst hO; rfl) (fun hc3 h => ?_) (fun hc3 h => ?_)
 conv => cbv
 refine br_t hO hc3 ?_
 conv => cbv
 refine br_t hO hc3 ?_
 conv => cbv
 refine br_t hO hc3 ?_
 conv => cbv
 refine br_t hO hc3 ?_
 conv => cbv
 refine br_t hO hc3 ?_
 conv => cbv
 refine br_h hO h (by subst hO; rfl) (fun hc4 h => ?_) (fun hc4 h => ?_)
 conv => cbv
 refine br_t hO hc4 ?_
 conv => cbv
 refine br_t hO hc4 ?_
 conv => cbv
 refine br_t hO hc4 ?_
 conv => cbv
 refine br_t hO hc4 ?_
 conv => cbv
 refine br_t hO hc4 ?_
 conv => cbv
 refine br_h hO h (by subst hO; rfl) (fun hc5 h => ?_) (fun hc5 h => ?_)
 conv => cbv
 refine br_t hO hc5 ?_
 conv => cbv
 refine br_t hO hc5 ?_
 conv => cbv
 refine br_t hO hc5 ?_
 conv => cbv
 refine br_t hO hc5 ?_
 conv => cbv
 refine br_t hO hc5 ?_
 conv => cbv
 refine br_h hO h (by subst hO; rfl) (fun hc6 h => ?_) (fun hc6 h => ?_)
 conv => cbv
 refine br_t hO hc6 ?_
 conv => cbv
 refine br_t hO hc6 ?_
 conv => cbv
 refine br_t hO hc6 ?_
 conv => cbv
 refine br_t hO hc6 ?_
 conv => cbv
 refine z0c hO [.shut,.shut] (d_p19 fu O.len hN h) ?_
 intro os Q hos hQ
 conv => cbv
 refine ⟨(by (rw [hos]) <;> (subst hO; rfl)),?_⟩
 intro r bs hq
 rw [hQ] at hq
 clear hos hQ h
 obtain ⟨y2,_,_,⟨rfl,rfl⟩,h⟩ := hq
 conv => cbv
 refine br_t hO hc6 ?_
 conv => cbv
 refine br_h hO h (by subst hO; rfl) (fun hc7 h => ?_) (fun hc7 h => ?_)
 conv => cbv
 refine br_t hO hc7 ?_
 conv => cbv
 refine br_t hO hc7 ?_
 conv => cbv
 refine br_t hO hc7 ?_
 conv => cbv
 refine br_t hO hc7 ?_
 conv => cbv
 refine z0c hO [.shut,.shut] (d_p130 fu O.len hN h) ?_
 intro os Q hos hQ
 conv => cbv
 refine ⟨(by (rw [hos]) <;> (subst hO; rfl)),?_⟩
 intro r bs hq
 rw [hQ] at hq
 clear hos hQ h
 obtain ⟨y3,_,_,⟨rfl,rfl⟩,h⟩ := hq
 conv => cbv
 refine br_t hO hc7 ?_
 conv => cbv
 exact hL_1 _ _ ⟨y3,⟨(by (conv => lhs; cbv) <;> (subst hO; rfl)),(by (conv => lhs; cbv) <;> (subst hO; rfl))⟩,h⟩
 conv => cbv
 refine br_f hO hc7 ?_
 conv => cbv
 refine br_f hO hc7 ?_
 conv => cbv
 refine br_f hO hc7 ?_
 conv => cbv
 refine br_f hO hc7 ?_
 conv => cbv
 refine br_f hO hc7 ?_
 conv => cbv
 exact hL_1 _ _ ⟨false,⟨(by (conv => lhs; cbv) <;> (subst hO; rfl)),(by (conv => lhs; cbv) <;> (subst hO; rfl))⟩,h⟩
 conv => cbv
 refine br_f hO hc6 ?_
 conv => cbv
 refine br_f hO hc6 ?_
 conv => cbv
 refine br_f hO hc6 ?_
 conv => cbv
 refine br_f hO hc6 ?_
 conv => cbv
 refine br_f hO hc6 ?_
 conv => cbv
 refine br_f hO rfl ?_
 conv => cbv
 refine br_f hO rfl ?_
 conv => cbv
 refine br_f hO rfl ?_
 conv => cbv
 refine br_f hO rfl ?_
 conv => cbv
 refine br_f hO rfl ?_
 conv => cbv
 refine br_f hO rfl ?_
 conv => cbv
 exact hL_1 _ _ ⟨false,⟨(by (conv => lhs; cbv) <;> (subst hO; rfl)),(by (conv => lhs; cbv) <;> (subst hO; rfl))⟩,h⟩
 conv => cbv
 refine br_f hO hc5 ?_
 conv => cbv
 refine br_f hO hc5 ?_
 conv => cbv
 refine br_f hO hc5 ?_
 conv => cbv
 refine br_f hO hc5 ?_
 conv => cbv
 refine br_f hO hc5 ?_
 conv => cbv
 refine br_f hO rfl ?_
 conv => cbv
 refine br_f hO rfl ?_
 conv => cbv
 refine br_f hO rfl ?_
 conv => cbv
 refine br_f hO rfl ?_
 conv => cbv
 refine br_f hO rfl ?_
 conv => cbv
 refine br_f hO rfl ?_
 conv => cbv
 refine br_f hO rfl ?_
 conv => cbv
 refine br_f hO rfl ?_
 conv => cbv
 refine br_f hO rfl ?_
 conv => cbv
 refine br_f hO rfl ?_
 conv => cbv
 refine br_f hO rfl ?_
 conv => cbv
 refine br_f hO rfl ?_
 conv => cbv
 exact hL_1 _ _ ⟨false,⟨(by (conv => lhs; cbv) <;> (subst hO; rfl)),(by (conv => lhs; cbv) <;> (subst hO; rfl))⟩,h⟩
 conv => cbv
 refine br_f hO hc4 ?_
 conv => cbv
 refine br_f hO hc4 ?_
 conv => cbv
 refine br_f hO hc4 ?_
 conv => cbv
 refine br_f hO hc4 ?_
 conv => cbv
 refine br_f hO hc4 ?_
 conv => cbv
 refine br_f hO rfl ?_
 conv => cbv
 refine br_f hO rfl ?_
 conv => cbv
 refine br_f hO rfl ?_
 conv => cbv
 refine br_f hO rfl ?_
 conv => cbv
 refine br_f hO rfl ?_
 conv => cbv
 refine br_f hO rfl ?_
 conv => cbv
 refine br_f hO rfl ?_
 conv => cbv
 refine br_f hO rfl ?_
 conv => cbv
 refine br_f hO rfl ?_
 conv => cbv
 refine br_f hO rfl ?_
 conv => cbv
 refine br_f hO rfl ?_
 conv => cbv
 refine br_f hO rfl ?_
 conv => cbv
 refine br_f hO rfl ?_
 conv => cbv
 refine br_f hO rfl ?_
 conv => cbv
 refine br_f hO rfl ?_
 conv => cbv
 refine br_f hO rfl ?_
 conv => cbv
 refine br_f hO rfl ?_
 conv => cbv
 refine br_f hO rfl ?_
 conv => cbv
 exact hL_1 _ _ ⟨false,⟨(by (conv => lhs; cbv) <;> (subst hO; rfl)),(by (conv => lhs; cbv) <;> (subst hO; rfl))⟩,h⟩
 conv => cbv
 refine br_f hO hc3 ?_
 conv => cbv
 refine br_f hO hc3 ?_
 conv => cbv
 refine br_f hO hc3 ?_
 conv => cbv
 refine br_f hO hc3 ?_
 conv => cbv
 refine br_f hO hc3 ?_
 conv => cbv
 refine br_f hO rfl ?_
 conv => cbv
 refine br_f hO rfl ?_
 conv => cbv
 refine br_f hO rfl ?_
 conv => cbv
 refine br_f hO rfl ?_
 conv => cbv
 refine br_f hO rfl ?_
 conv => cbv
 refine br_f hO rfl ?_
 conv => cbv
 refine br_f hO rfl ?_
 conv => cbv
 refine br_f hO rfl ?_
 conv => cbv
 refine br_f hO rfl ?_
 conv => cbv
 refine br_f hO rfl ?_
 conv => cbv
 refine br_f hO rfl ?_
 conv => cbv
 refine br_f hO rfl ?_
 conv => cbv
 refine br_f hO rfl ?_
 conv => cbv
 refine br_f hO rfl ?_
 conv => cbv
 refine br_f hO rfl ?_
 conv => cbv
 refine br_f hO rfl ?_
 conv => cbv
 refine br_f hO rfl ?_
 conv => cbv
 refine br_f hO rfl ?_
 conv => cbv
 refine br_f hO rfl ?_
 conv => cbv
 refine br_f hO rfl ?_
 conv => cbv
 refine br_f hO rfl ?_
 conv => cbv
 refine br_f hO rfl ?_
 conv => cbv
 refine br_f hO rfl ?_
 conv => cbv
 refine br_f hO rfl ?_
 conv => cbv
 exact hL_1 _ _ ⟨false,⟨(by (conv => lhs; cbv) <;> (subst hO; rfl)),(by (conv => lhs; cbv) <;> (subst hO; rfl))⟩,h⟩
 conv => cbv
 refine br_f hO hc2 ?_
 conv => cbv
 refine br_f hO hc2 ?_
 conv => cbv
 refine br_f hO hc2 ?_
 conv => cbv
 refine br_f hO hc2 ?_
 conv => cbv
 refine br_f hO hc2 ?_
 conv => cbv
 refine br_f hO rfl ?_
 conv => cbv
 refine br_f hO rfl ?_
 conv => cbv
 refine br_f hO rfl ?_
 conv => cbv
 refine br_f hO rfl ?_
 conv => cbv
 refine br_f hO rfl ?_
 conv => cbv
 refine br_f hO rfl ?_
 conv => cbv
 refine br_f hO rfl ?_
 conv => cbv
 refine br_f hO rfl ?_
 conv => cbv
 refine br_f hO rfl ?_
 conv => cbv
 refine br_f hO rfl ?_
 conv => cbv
 refine br_f hO rfl ?_
 conv => cbv
 refine br_f hO rfl ?_
 conv => cbv
 refine br_f hO rfl ?_
 conv => cbv
 refine br_f hO rfl ?_
 conv => cbv
 refine br_f hO rfl ?_
 conv => cbv
 refine br_f hO rfl ?_
 conv => cbv
 refine br_f hO rfl ?_
 conv => cbv
 refine br_f hO rfl ?_
 conv => cbv
 refine br_f hO rfl ?_
 conv => cbv
 refine br_f hO rfl ?_
 conv => cbv
 refine br_f hO rfl ?_
 conv => cbv
 refine br_f hO rfl ?_
 conv => cbv
 refine br_f hO rfl ?_
 conv => cbv
 refine br_f hO rfl ?_
 conv => cbv
 refine br_f hO rfl ?_
 conv => cbv
 refine br_f hO rfl ?_
 conv => cbv
 refine br_f hO rfl ?_
 conv => cbv
 refine br_f hO rfl ?_
 conv => cbv
 refine br_f hO rfl ?_
 conv => cbv
 refine br_f hO rfl ?_
 conv => cbv
 exact hL_1 _ _ ⟨false,⟨(by (conv => lhs; cbv) <;> (subst hO; rfl)),(by (conv => lhs; cbv) <;> (subst hO; rfl))⟩,h⟩
 conv => cbv
 refine br_f hO hc1 ?_
 conv => cbv
 refine br_f hO hc1 ?_
 conv => cbv
 refine br_f hO hc1 ?_
 conv => cbv
 refine br_f hO hc1 ?_
 conv => cbv
 refine br_f hO hc1 ?_
 conv => cbv
 refine br_f hO rfl ?_
 conv => cbv
 refine br_f hO rfl ?_
 conv => cbv
 refine br_f hO rfl ?_
 conv => cbv
 refine br_f hO rfl ?_
 conv => cbv
 refine br_f hO rfl ?_
 conv => cbv
 refine br_f hO rfl ?_
 conv => cbv
 refine br_f hO rfl ?_
 conv => cbv
 refine br_f hO rfl ?_
 conv => cbv
 refine br_f hO rfl ?_
 conv => cbv
 refine br_f hO rfl ?_
 conv => cbv
 refine br_f hO rfl ?_
 conv => cbv
 refine br_f hO rfl ?_
 conv => cbv
 refine br_f hO rfl ?_
 conv => cbv
 refine br_f hO rfl ?_
 conv => cbv
 refine br_f hO rfl ?_
 conv => cbv
 refine br_f hO rfl ?_
 conv => cbv
 refine br_f hO rfl ?_
 conv => cbv
 refine br_f hO rfl ?_
 conv => cbv
 refine br_f hO rfl ?_
 conv => cbv
 refine br_f hO rfl ?_
 conv => cbv
 refine br_f hO rfl ?_
 conv => cbv
 refine br_f hO rfl ?_
 conv => cbv
 refine br_f hO rfl ?_
 conv => cbv
 refine br_f hO rfl ?_
 conv => cbv
 refine br_f hO rfl ?_
 conv => cbv
 refine br_f hO rfl ?_
 conv => cbv
 refine br_f hO rfl ?_
 conv => cbv
 refine br_f hO rfl ?_
 conv => cbv
 refine br_f hO rfl ?_
 conv => cbv
 refine br_f hO rfl ?_
 conv => cbv
 refine br_f hO rfl ?_
 conv => cbv
 refine br_f hO rfl ?_
 conv => cbv
 refine br_f hO rfl ?_
 conv => cbv
 refine br_f hO rfl ?_
 conv => cbv
 refine br_f hO rfl ?_
 conv => cbv
 refine br_f hO rfl ?_
 conv => cbv
 exact hL_1 _ _ ⟨false,⟨(by (conv => lhs; cbv) <;> (subst hO; rfl)),(by (conv => lhs; cbv) <;> (subst hO; rfl))⟩,h⟩
 rintro tm m ⟨j1,hs,h⟩
 unfold p99_1 at h
 obtain ⟨rfl,rfl⟩ := hs
 conv => cbv
 rw [hQ]
 exact ⟨j1,_,_,⟨(by subst hO; rfl),(by subst hO; rfl)⟩,h⟩
theorem d_p47 (fu : Nat) {K0 : Bool → Prop} (L : EL → Nat) (hN : L = List.length) {x0 x1 x2 x3 x4 : Int} {x5 : Bool} {x6 x7 : Int} {x8 : ByteArray} {x9 x10 : EL} {x11 : Int} {x12 : EL} {x13 x14 x15 x16 x17 : Int} {x18 : Bool} {x19 x20 : Int} {x21 : ByteArray} {x22 x23 : EL} {x24 : Int} {x25 : EL} (h : p47 False fu K0 x0 x1 x2 x3 x4 x5 x6 x7 x8 x9 x10 x11 x12 x13 x14 x15 x16 x17 x18 x19 x20 x21 x22 x23 x24 x25) : Den Try.prog G0 47 [.agg [.c (.v (.int .i64 x0)),.c (.v (.int .u64 x1)),.c (.v (.int .u64 x2)),.c (.v (.int .i64 x3)),.c (.v (.int .i64 x4)),.c (.v (.bool x5)),.c (.v (.int .i64 x6)),.c (.v (.int .i64 x7)),.c (.v (.string x8)),.c (.sl 3 x9 none),.c (.sl 5 x10 none),.c (.v (.int .i64 x11)),.c (.sl 1 x12 none)],.agg [.c (.v (.int .i64 x13)),.c (.v (.int .u64 x14)),.c (.v (.int .u64 x15)),.c (.v (.int .i64 x16)),.c (.v (.int .i64 x17)),.c (.v (.bool x18)),.c (.v (.int .i64 x19)),.c (.v (.int .i64 x20)),.c (.v (.string x21)),.c (.sl 3 x22 none),.c (.sl 5 x23 none),.c (.v (.int .i64 x24)),.c (.sl 1 x25 none)]] (fun r bs => (∃ (y0 : Bool) (o0 o1 : OV),(r = .c (.v (.bool y0)) ∧ bs = [o0,o1]) ∧ K0 y0)) := by
 obtain ⟨O,hO⟩ : ∃ O,O = std 0 T G0 (Den Try.prog G0) := ⟨_,rfl⟩
 have hLO : L = O.len := by rw [hN,hO]; rfl
 subst hLO
 refine den_h hO tiA mixed tabOk (fn := Try.f47) (sh := true) (by kernel_rfl) rfl rfl rfl rfl ?_
 intro Q hQ
 unfold p47 at h
 conv => cbv
 refine z0c hO [.shut,.shut] (d_p99 fu O.len hN h) ?_
 intro os Q hos hQ
 conv => cbv
 refine ⟨(by (rw [hos]) <;> (subst hO; rfl)),?_⟩
 intro r bs hq
 rw [hQ] at hq
 clear hos hQ h
 obtain ⟨y1,_,_,⟨rfl,rfl⟩,h⟩ := hq
 conv => cbv
 rw [hQ]
 exact ⟨y1,_,_,⟨(by subst hO; rfl),(by subst hO; rfl)⟩,h⟩
end Go.Proofs.Ythncmjlcmlmnmaa
