/- The Go functions are followed by those without memory. Printed by gen.py. Conditions: none. -/
import Derived.Test.YthncmjlcmlmnmaaRT5
namespace Go.Proofs.Ythncmjlcmlmnmaa
open Go V
set_option maxRecDepth 100000
set_option maxHeartbeats 4000000
theorem d_p126 (fu : Nat) {K0 : EL → Int → Int → Prop} (L : EL → Nat) (hN : L = List.length) {x0 : EL} {x1 : Int} (h : p126 False fu K0 x0 x1) : Den Try.prog G0 126 [.c (.sl 1 x0 none),.c (.v (.int .i64 x1))] (fun r bs => (∃ (y0 : EL) (y1 y2 : Int) (o0 o1 : OV),(r = .tup [.c (.sl 1 y0 none),.c (.v (.int .i64 y1)),.c (.v (.int .i64 y2))] ∧ bs = [o0,o1]) ∧ K0 y0 y1 y2)) := by
 obtain ⟨O,hO⟩ : ∃ O,O = std 0 T G0 (Den Try.prog G0) := ⟨_,rfl⟩
 have hLO : L = O.len := by rw [hN,hO]; rfl
 subst hLO
 refine den_h hO tiA mixed tabOk (fn := Try.f126) (sh := true) (by kernel_rfl) rfl rfl rfl rfl ?_
 intro Q hQ
 unfold p126 at h
 conv => cbv
 refine z0c hO [.shut] (d_p139 fu O.len hN h) ?_
 intro os Q hos hQ
 conv => cbv
 refine ⟨(by (rw [hos]) <;> (subst hO; rfl)),?_⟩
 intro r bs hq
 rw [hQ] at hq
 clear hos hQ h
 obtain ⟨y1,y2,y3,_,⟨rfl,rfl⟩,h⟩ := hq
 conv => cbv
 refine br_h hO h (by subst hO; rfl) (fun hc1 h => ?_) (fun hc1 h => ?_)
 conv => cbv
 rw [hQ]
 exact ⟨nilE,0,y3,_,_,⟨(by subst hO; rfl),(by subst hO; rfl)⟩,h⟩
 conv => cbv
 refine br_h hO h (by subst hO; rfl) (fun hc2 h => ?_) (fun hc2 h => ?_)
 conv => cbv
 rw [hQ]
 exact ⟨nilE,0,3,_,_,⟨(by subst hO; rfl),(by subst hO; rfl)⟩,h⟩
 conv => cbv
 refine br_h hO h (by subst hO; rfl) (fun hc3 h => ?_) (fun hc3 h => ?_)
 conv => cbv
 rw [hQ]
 exact ⟨nilE,0,2,_,_,⟨(by subst hO; rfl),(by subst hO; rfl)⟩,h⟩
 conv => cbv
 refine z0b hO ?_
 conv => cbv
 refine z0b hO ?_
 conv => cbv
 refine z0b hO ?_
 conv => cbv
 refine and_h h (fun g => (by subst hO; exact g)) (fun h => ?_)
 refine and_h h (fun g => (by subst hO; exact g)) (fun h => ?_)
 refine and_h h (fun g => (by subst hO; exact g)) (fun h => ?_)
 refine and_h h (fun g => (by subst hO; exact g)) (fun h => ?_)
 refine and_h h (fun g => (by subst hO; exact g)) (fun h => ?_)
 refine and_h h (fun g => (by subst hO; exact g)) (fun h => ?_)
 refine z0m hO ?_
 conv => cbv
 rw [hQ]
 exact ⟨(nilE ++ (List.drop ((y2 : Int).toNat) (List.take ((z0d .add .i64 y2 (IntKind.i64.wrap y1) : Int).toNat) x0))),z0d .add .i64 y2 (IntKind.i64.wrap y1),0,_,_,⟨(by subst hO; rfl),(by subst hO; rfl)⟩,h⟩
theorem d_p95 (fu : Nat) {K0 : EL → EL → Int → Prop} (L : EL → Nat) (hN : L = List.length) {x0 : EL} {x1 x2 : Int} (h : p95 False fu K0 x0 x1 x2) : Den Try.prog G0 95 [.ptr [.c (.sl 1 x0 none),.c (.v (.int .i64 x1))],.c (.v (.int .i64 x2))] (fun r bs => (∃ (y0 y1 : EL) (y2 : Int) (o1 : OV),(r = .c (.sl 1 y0 none) ∧ bs = [.ptr [.c (.sl 1 y1 none),.c (.v (.int .i64 y2))],o1]) ∧ K0 y0 y1 y2)) := by
 obtain ⟨O,hO⟩ : ∃ O,O = std 1 T G0 (Den Try.prog G0) := ⟨_,rfl⟩
 have hLO : L = O.len := by rw [hN,hO]; rfl
 subst hLO
 refine den_h hO tiA mixed tabOk (fn := Try.f95) (sh := true) (by kernel_rfl) rfl rfl rfl rfl ?_
 intro Q hQ
 unfold p95 at h
 conv => cbv
 refine br_h hO h (by subst hO; rfl) (fun hc1 h => ?_) (fun hc1 h => ?_)
 conv => cbv
 rw [hQ]
 exact ⟨nilE,x0,x1,_,⟨(by subst hO; rfl),(by subst hO; rfl)⟩,h⟩
 conv => cbv
 refine z0b hO ?_
 conv => cbv
 refine z0c hO [.shut,.shut] (d_p126 fu O.len hN h) ?_
 intro os Q hos hQ
 conv => cbv
 refine ⟨(by (rw [hos]) <;> (subst hO; rfl)),?_⟩
 intro r bs hq
 rw [hQ] at hq
 clear hos hQ h
 obtain ⟨y1,y2,y3,_,_,⟨rfl,rfl⟩,h⟩ := hq
 conv => cbv
 refine z0c hO [.ref 2,.shut] (d_p94 fu O.len hN h) ?_
 intro os Q hos hQ
 conv => cbv
 refine ⟨(by (rw [hos]) <;> (subst hO; rfl)),?_⟩
 intro r bs hq
 rw [hQ] at hq
 clear hos hQ h
 obtain ⟨y4,y5,_,⟨rfl,rfl⟩,h⟩ := hq
 conv => cbv
 refine and_h h (fun g => (by subst hO; exact g)) (fun h => ?_)
 refine and_h h (fun g => (by subst hO; exact g)) (fun h => ?_)
 refine and_h h (fun g => (by subst hO; exact g)) (fun h => ?_)
 rw [hQ]
 exact ⟨y1,List.drop ((y2 : Int).toNat) (List.take (((y4.length : Nat) : Int).toNat) y4),y5,_,⟨(by subst hO; rfl),(by subst hO; rfl)⟩,h⟩
def p137_1 {ρ : Type} (fail : ρ) (fu : Nat) (K0 : EL → Int → Int → ρ) (j1 : EL) (j2 j3 : Int) : ρ :=
 K0 j1 j2 j3
def p137_2 {ρ : Type} (fail : ρ) (fu : Nat) (K0 : EL → Int → Int → ρ) (j6 : EL) (j7 j8 : Int) : ρ :=
 p137_1 fail fu K0 j6 j7 j8
def p137 {ρ : Type} (fail : ρ) (fu : Nat) (K0 : EL → Int → Int → ρ) (x0 : EL) (x1 x2 x3 x4 x5 : Int) : ρ :=
 bif (z0a .gtr (z0d .add .i64 x2 1) x3) then (p94 fail fu (fun y4 y5 => p137_1 fail fu K0 y4 y5 (z0d .add .i64 x2 1)) x0 x1 3) else (bif (z0a .gtr x4 x5) then (p94 fail fu (fun y9 y10 => p137_2 fail fu K0 y9 y10 (z0d .add .i64 x2 1)) x0 x1 6) else (p137_2 fail fu K0 x0 x1 (z0d .add .i64 x2 1)))
theorem d_p137 (fu : Nat) {K0 : EL → Int → Int → Prop} (L : EL → Nat) (hN : L = List.length) {x0 : EL} {x1 x2 x3 x4 x5 : Int} (h : p137 False fu K0 x0 x1 x2 x3 x4 x5) : Den Try.prog G0 137 [.ptr [.c (.sl 1 x0 none),.c (.v (.int .i64 x1))],.ptr [.c (.v (.int .i64 x2))],.c (.v (.int .i64 x3)),.c (.v (.int .i64 x4)),.c (.v (.int .i64 x5))] (fun r bs => (∃ (y0 : EL) (y1 y2 : Int) (o2 o3 o4 : OV),(r = .tup [] ∧ bs = [.ptr [.c (.sl 1 y0 none),.c (.v (.int .i64 y1))],.ptr [.c (.v (.int .i64 y2))],o2,o3,o4]) ∧ K0 y0 y1 y2)) := by
 obtain ⟨O,hO⟩ : ∃ O,O = std 2 T G0 (Den Try.prog G0) := ⟨_,rfl⟩
 have hLO : L = O.len := by rw [hN,hO]; rfl
 subst hLO
 refine den_h hO tiA mixed tabOk (fn := Try.f137) (sh := true) (by kernel_rfl) rfl rfl rfl rfl ?_
 intro Q hQ
 unfold p137 at h
 conv => cbv
 refine z0h hO tiA h (by subst hO; rfl) [] [0,1] [] (fun tm m => ∃ (j1 : EL) (j2 : Int) (j3 : Int),((tm = frame 0 29 [] ∧ m = ⟨[(0,.blk 0 [.c (.sl 1 j1 none),.c (.v (.int .i64 j2))]),(1,.blk 1 [.c (.v (.int .i64 j3))])],3⟩)) ∧ p137_1 False fu K0 j1 j2 j3) (fun hc1 h L hL_1 => ?_) (fun hc1 h L hL_1 => ?_) ?_
 conv => cbv
 refine z0c hO [.ref 2,.shut] (d_p94 fu O.len hN h) ?_
 intro os Q hos hQ
 conv => cbv
 refine ⟨(by (rw [hos]) <;> (subst hO; rfl)),?_⟩
 intro r bs hq
 rw [hQ] at hq
 clear hos hQ h
 obtain ⟨y4,y5,_,⟨rfl,rfl⟩,h⟩ := hq
 conv => cbv
 exact hL_1 _ _ ⟨y4,y5,z0d .add .i64 x2 1,⟨(by (conv => lhs; cbv) <;> (subst hO; rfl)),(by (conv => lhs; cbv) <;> (subst hO; rfl))⟩,h⟩
 conv => cbv
 refine z0h hO tiA h (by subst hO; rfl) [] [0,1] [] (fun tm m => ∃ (j6 : EL) (j7 : Int) (j8 : Int),((tm = frame 0 29 [] ∧ m = ⟨[(0,.blk 0 [.c (.sl 1 j6 none),.c (.v (.int .i64 j7))]),(1,.blk 1 [.c (.v (.int .i64 j8))])],3⟩)) ∧ p137_2 False fu K0 j6 j7 j8) (fun hc2 h L hL_2 => ?_) (fun hc2 h L hL_2 => ?_) ?_
 conv => cbv
 refine z0c hO [.ref 2,.shut] (d_p94 fu O.len hN h) ?_
 intro os Q hos hQ
 conv => cbv
 refine ⟨(by (rw [hos]) <;> (subst hO; rfl)),?_⟩
 intro r bs hq
 rw [hQ] at hq
 clear hos hQ h
 obtain ⟨y9,y10,_,⟨rfl,rfl⟩,h⟩ := hq
 conv => cbv
 exact hL_2 _ _ ⟨y9,y10,z0d .add .i64 x2 1,⟨(by (conv => lhs; cbv) <;> (subst hO; rfl)),(by (conv => lhs; cbv) <;> (subst hO; rfl))⟩,h⟩
 conv => cbv
 exact hL_2 _ _ ⟨x0,x1,z0d .add .i64 x2 1,⟨(by (conv => lhs; cbv) <;> (subst hO; rfl)),(by (conv => lhs; cbv) <;> (subst hO; rfl))⟩,h⟩
 rintro tm m ⟨j6,j7,j8,hs,h⟩
 unfold p137_2 at h
 obtain ⟨rfl,rfl⟩ := hs
 conv => cbv
 exact hL_1 _ _ ⟨j6,j7,j8,⟨(by (conv => lhs; cbv) <;> (subst hO; rfl)),(by (conv => lhs; cbv) <;> (subst hO; rfl))⟩,h⟩
 rintro tm m ⟨j1,j2,j3,hs,h⟩
 unfold p137_1 at h
 obtain ⟨rfl,rfl⟩ := hs
 conv => cbv
 rw [hQ]
 exact ⟨j1,j2,j3,_,_,_,⟨(by subst hO; rfl),(by subst hO; rfl)⟩,h⟩
theorem gd_y {ρ : Type} {p : Prop} [Decidable p] {f k : ρ} (h : p) : gd p f k = k := if_pos h
theorem eqlT {a b : Int} (h : a = b) : z0a .eql a b = true := by subst h; simp [z0a]
theorem eqlF {a b : Int} (h : a ≠ b) : z0a .eql a b = false := by simp [z0a, h]
theorem neqT {a b : Int} (h : a ≠ b) : z0a .neq a b = true := by simp [z0a, h]
theorem neqF {a b : Int} (h : a = b) : z0a .neq a b = false := by subst h; simp [z0a]
theorem lssT {a b : Int} (h : a < b) : z0a .lss a b = true := decide_eq_true h
theorem lssF {a b : Int} (h : b ≤ a) : z0a .lss a b = false := decide_eq_false (by omega)
theorem leqT {a b : Int} (h : a ≤ b) : z0a .leq a b = true := decide_eq_true h
theorem leqF {a b : Int} (h : b < a) : z0a .leq a b = false := decide_eq_false (by omega)
theorem gtrT {a b : Int} (h : b < a) : z0a .gtr a b = true := decide_eq_true h
theorem gtrF {a b : Int} (h : a ≤ b) : z0a .gtr a b = false := decide_eq_false (by omega)
theorem geqT {a b : Int} (h : b ≤ a) : z0a .geq a b = true := decide_eq_true h
theorem geqF {a b : Int} (h : a < b) : z0a .geq a b = false := decide_eq_false (by omega)
theorem addZ {a b : Int} (h1 : -4611686018427387904 ≤ a ∧ a ≤ 4611686018427387903) (h2 : -4611686018427387904 ≤ b ∧ b ≤ 4611686018427387903) : z0d .add .i64 a b = a + b := z4q (by omega)
theorem subZ {a b : Int} (h1 : -4611686018427387904 ≤ a ∧ a ≤ 4611686018427387903) (h2 : -4611686018427387904 ≤ b ∧ b ≤ 4611686018427387903) : z0d .sub .i64 a b = a - b := z4q (by omega)
theorem mulZ {a b : Int} (h : -4611686018427387904 ≤ a * b ∧ a * b ≤ 4611686018427387903) : z0d .mul .i64 a b = a * b := z4q (by omega)
theorem k1a (c : UInt8) : z0d .andNot .u8 (c.toNat : Nat) 128 = ((c.toNat % 128 : Nat) : Int) := by
 have : ∀ x : Fin 256, z0d .andNot .u8 (x.val : Nat) 128 = ((x.val % 128 : Nat) : Int) := by decide +kernel
 exact this ⟨c.toNat, c.toNat_lt⟩
theorem z3u (n : Nat) (h : n < 2 ^ 64) : IntKind.u64.wrap ((n : Nat) : Int) = ((n : Nat) : Int) := by
 have h' : n < 18446744073709551616 := h
 exact z9o (by omega)
theorem k2q (a m i : Nat) (ha : a < 2 ^ (7 * i)) (hi : i ≤ 9) (hm : m * 2 ^ (7 * i) < 2 ^ 64) : z0d .or .u64 (a : Nat) (z0d .shl .u64 (m : Nat) ((7 * i : Nat) : Int)) = ((a + m * 2 ^ (7 * i) : Nat) : Int) := by
 have hs : z0d .shl .u64 (m : Nat) ((7 * i : Nat) : Int) = ((m * 2 ^ (7 * i) : Nat) : Int) := by
  show IntKind.u64.wrap ((m : Int) * 2 ^ (min (((7 * i : Nat) : Int)).toNat 64)) = _
  have hmin : min (((7 * i : Nat) : Int)).toNat 64 = 7 * i := by rw [Int.toNat_natCast]; omega
  have hp : (m : Int) * 2 ^ (7 * i) = ((m * 2 ^ (7 * i) : Nat) : Int) := by rw [Int.natCast_mul, Int.natCast_pow]; rfl
  rw [hmin, hp, z3u _ hm]
 rw [hs]
 show IntKind.u64.wrap (bOr 64 _ _ : Nat) = _
 have ha2 : a < 2 ^ 64 := Nat.lt_of_lt_of_le ha (Nat.pow_le_pow_right (by omega) (by omega))
 rw [w5f 64 _ _ ha2 hm]
 have h1 : a ||| m * 2 ^ (7 * i) = a + m * 2 ^ (7 * i) := by
  have := Nat.shiftLeft_add_eq_or_of_lt ha m
  rw [Nat.shiftLeft_eq] at this
  rw [Nat.or_comm, ← this, Nat.add_comm]
 have h2 : a + m * 2 ^ (7 * i) < 2 ^ 64 := by rw [← h1]; exact Nat.or_lt_two_pow ha2 hm
 rw [h1, z3u _ h2]
theorem w8s {ρ : Type} (fail : ρ) (bs : List UInt8) (i : Nat) (h : i < bs.length) (k : Int → ρ) : rw_u8 fail (List.getD (encB bs) ((i : Int).toNat) []) k = k ((bs[i]).toNat : Nat) := by
 rw [Int.toNat_natCast, w6l h]; rfl
def tvK {ρ : Type} (i a : Nat) (K : Int → Int → Int → ρ) : Except Int (Nat × Nat) → ρ
 | .ok (v, k) => K ((a + v * 2 ^ (7 * i) : Nat) : Int) ((i + k : Nat) : Int) 0
 | .error e => K 0 0 e
theorem w1p {ρ : Type} (fail : ρ) (fu : Nat) (K : Int → Int → Int → ρ) (bs : List UInt8) (hl : bs.length ≤ 1099511627776) : ∀ (n i a : Nat), i ≤ 9 → i ≤ bs.length → 10 ≤ n + i → a < 2 ^ (7 * i) →
  p139_3L fail fu K (encB bs) n (a : Nat) ((bs.length : Nat) : Int) (i : Nat) = tvK i a K (tv i (bs.drop i)) := by
 intro n
 induction n with
 | zero => intro i a hi; omega
 | succ n ih =>
  intro i a hi hib hn ha
  rw [p139_3L, p139_3]
  by_cases hlt : i < bs.length
  ·have hd : bs.drop i = bs[i] :: bs.drop (i + 1) := List.drop_eq_getElem_cons hlt
   rw [lssT (by omega), cond_true, gd_y (by omega), gd_y (by rw [z0f]; omega), w8s fail bs i hlt, hd]
   generalize bs[i] = c
   have hc := c.toNat_lt
   simp only [tv]
   have h7 : z0d .mul .i64 7 (i : Nat) = ((7 * i : Nat) : Int) := by rw [mulZ (by omega)]; omega
   have h7u : IntKind.u64.wrap ((7 * i : Nat) : Int) = ((7 * i : Nat) : Int) := z9o (by omega)
   have hcu : IntKind.u64.wrap ((c.toNat % 128 : Nat) : Int) = ((c.toNat % 128 : Nat) : Int) := z9o (by omega)
   have h9 : ∀ b : Bool, (b = decide (i = 9 ∧ 1 < c.toNat)) → p139_2 fail fu K (p139_3L fail fu K (encB bs) n) (a : Nat) ((bs.length : Nat) : Int) (i : Nat) ((c.toNat : Nat) : Int) b = tvK i a K (tv i (c :: bs.drop (i + 1))) := fun b hb => by
    rw [p139_2, h7, h7u, k1a, hcu]
    simp only [tv]
    by_cases h9 : i = 9 ∧ 1 < c.toNat
    ·rw [hb, decide_eq_true h9, cond_true, if_pos h9]; rfl
    ·rw [hb, decide_eq_false h9, cond_false, if_neg h9, gd_y (by omega)]
     by_cases hc2 : 128 ≤ c.toNat
     ·have hi9 : i ≠ 9 := fun q => h9 ⟨q, by omega⟩
      have hp : 2 ^ (7 * (i + 1)) = 128 * 2 ^ (7 * i) := by rw [show 7 * (i + 1) = 7 * i + 7 by omega, Nat.pow_add]; omega
      have hm : c.toNat % 128 * 2 ^ (7 * i) < 128 * 2 ^ (7 * i) := Nat.mul_lt_mul_of_pos_right (by omega) (Nat.two_pow_pos _)
      have hm64 : 128 * 2 ^ (7 * i) ≤ 2 ^ 64 := by rw [← hp]; exact Nat.pow_le_pow_right (by omega) (by omega)
      have hsum : a + c.toNat % 128 * 2 ^ (7 * i) < 2 ^ (7 * (i + 1)) := by
       rw [hp]
       have : c.toNat % 128 * 2 ^ (7 * i) ≤ 127 * 2 ^ (7 * i) := Nat.mul_le_mul_right _ (by omega)
       omega
      rw [geqT (by omega), cond_true, if_pos hc2, k2q a (c.toNat % 128) i ha hi (by omega), addZ (by omega) (by omega)]
      have := ih (i + 1) (a + c.toNat % 128 * 2 ^ (7 * i)) (by omega) (by omega) (by omega) hsum
      rw [show ((i : Nat) : Int) + 1 = ((i + 1 : Nat) : Int) by omega, this]
      cases tv (i + 1) (bs.drop (i + 1)) with
      | error e => rfl
      | ok x =>
       obtain ⟨v, k⟩ := x
       simp only [tvK]
       rw [show a + c.toNat % 128 * 2 ^ (7 * i) + v * 2 ^ (7 * (i + 1)) = a + (c.toNat - 128 + 128 * v) * 2 ^ (7 * i) by
        rw [hp, show c.toNat % 128 = c.toNat - 128 by omega, Nat.add_mul, Nat.mul_comm 128 v, Nat.mul_assoc v 128]; omega, show i + 1 + k = i + (k + 1) by omega]
     ·rw [geqF (by omega), cond_false, if_neg hc2]
      have hmod : c.toNat % 128 = c.toNat := by omega
      have hm : c.toNat * 2 ^ (7 * i) < 2 ^ 64 := by
       by_cases hi9 : i = 9
       ·subst hi9
        have : c.toNat ≤ 1 := by rcases Nat.lt_or_ge 1 c.toNat with q | q; exact absurd ⟨rfl, q⟩ h9; exact q
        have h63 : (2 : Nat) ^ 64 = 2 * 2 ^ (7 * 9) := by decide
        have := Nat.mul_le_mul_right (2 ^ (7 * 9)) this
        omega
       ·have hp : 2 ^ (7 * (i + 1)) = 128 * 2 ^ (7 * i) := by rw [show 7 * (i + 1) = 7 * i + 7 by omega, Nat.pow_add]; omega
        have hm64 : 128 * 2 ^ (7 * i) ≤ 2 ^ 64 := by rw [← hp]; exact Nat.pow_le_pow_right (by omega) (by omega)
        have : c.toNat * 2 ^ (7 * i) ≤ 127 * 2 ^ (7 * i) := Nat.mul_le_mul_right _ (by omega)
        have hpos := Nat.two_pow_pos (7 * i)
        omega
      rw [hmod, k2q a c.toNat i ha hi hm]
      by_cases hz : c.toNat = 0
      ·rw [eqlT (by omega), cond_true, p139_1]
       by_cases h0 : 0 < i
       ·rw [gtrT (by omega), cond_true, if_pos ⟨hz, h0⟩]; rfl
       ·rw [gtrF (by omega), cond_false, if_neg (fun q => h0 q.2), addZ (by omega) (by omega)]
        rfl
      ·rw [eqlF (by omega), cond_false, p139_1, cond_false, if_neg (fun q => hz q.1), addZ (by omega) (by omega)]
       rfl
   by_cases hi9 : i = 9
   ·rw [eqlT (by omega), cond_true]
    exact h9 _ (by rw [Bool.eq_iff_iff]; simp [z0a, hi9]; omega)
   ·rw [eqlF (by omega), cond_false]
    exact h9 _ (by simp [hi9])
  ·rw [lssF (by omega), cond_false, List.drop_eq_nil_of_le (by omega)]; rfl
theorem z9q {ρ : Type} (fail : ρ) (fu : Nat) (hf : 10 ≤ fu) (K : Int → Int → Int → ρ) (bs : List UInt8) (hl : bs.length ≤ 1099511627776) : p139 fail fu K (encB bs) = tvK 0 0 K (tv 0 bs) := by
 rw [p139, z0f]
 exact w1p fail fu K bs hl fu 0 0 (by omega) (by omega) (by omega) (by omega)
def rdV (bs : List UInt8) : Except Int (Nat × List UInt8) := match tv 0 bs with | .ok (v, k) => .ok (v, bs.drop k) | .error e => .error e
theorem z2o {ρ : Type} (fail : ρ) (fu : Nat) (K : EL → Int → ρ) (B : EL) (e : Int) : p94 fail fu K B 0 e = K B e := by
 rw [p94, eqlT rfl, cond_true, p94_1]
theorem k0f {ρ : Type} (fail : ρ) (fu : Nat) (K : EL → Int → ρ) (B : EL) (e e' : Int) (h : e ≠ 0) : p94 fail fu K B e e' = K B e := by
 rw [p94, eqlF h, cond_false, p94_1]
def rdK {ρ : Type} (K : Int → EL → Int → ρ) (junk : Int) (B : EL) : Except Int (Nat × List UInt8) → ρ
 | .ok (v, r) => K (v : Nat) (encB r) 0
 | .error e => K junk B e
theorem w8v {bs : List UInt8} {e : Int} (h : rdV bs = .error e) : e = 2 ∨ e = 4 ∨ e = 5 := by
 unfold rdV at h; split at h
 ·cases h
 ·rename_i e' h'; injection h with h; subst h; exact w8e _ _ _ h'
theorem w2b {bs : List UInt8} {v : Nat} {r : List UInt8} (h : rdV bs = .ok (v, r)) : v < 2 ^ 64 ∧ r.length < bs.length ∧ bs = varB v ++ r := by
 unfold rdV at h; split at h
 ·rename_i v' k h'
  injection h with h; injection h with h1 h2; subst h1; subst h2
  have h3 := w5k _ _ _ _ h'
  refine ⟨k2k h', by simp; omega, ?_⟩
  rw [← (w8d _ _ _ _ h').1, List.take_append_drop]
 ·cases h
theorem k2m {ρ : Type} (fail : ρ) (fu : Nat) (hf : 10 ≤ fu) (K : Int → EL → Int → ρ) (bs : List UInt8) (hl : bs.length ≤ 1099511627776) : p116 fail fu K (encB bs) 0 = rdK K 0 (encB bs) (rdV bs) := by
 rw [p116, neqF rfl, cond_false, z9q fail fu hf _ bs hl]
 unfold rdV
 cases ht : tv 0 bs with
 | error e =>
  simp only [tvK, z2o]
  rw [gd_y (by omega), gd_y (by omega), gd_y (by omega)]
  simp [rdK]
 | ok x =>
  obtain ⟨v, k⟩ := x
  have := w5k _ _ _ _ ht
  simp only [tvK, z2o]
  rw [gd_y (by omega), gd_y (by rw [z0f]; omega), gd_y (by omega)]
  simp [rdK]
theorem rawE {ρ : Type} (fail : ρ) (fu : Nat) (K : Int → EL → Int → ρ) (B : EL) (e : Int) (h : e ≠ 0) : p116 fail fu K B e = K 0 B e := by
 rw [p116, neqT h, cond_true]
def z3m (lo hi : Nat) (bs : List UInt8) : Except Int (Nat × List UInt8) := match rdV bs with
 | .ok (v, r) => if v < lo ∨ hi < v then .error 5 else .ok (v, r)
 | .error e => .error e
def KOut {ρ : Type} (p : (Int → EL → Int → ρ) → ρ) (j : Int) : Except Int (Nat × List UInt8) → Prop
 | .ok (v, r) => ∀ K : Int → EL → Int → ρ, p K = K (v : Nat) (encB r) 0
 | .error e => e ≠ 0 ∧ ∃ B, ∀ K : Int → EL → Int → ρ, p K = K j B e
theorem w1f {ρ : Type} (fail : ρ) (fu : Nat) (hf : 10 ≤ fu) (bs : List UInt8) (hl : bs.length ≤ 1099511627776) (lo hi : Nat) (h1 : lo ≤ 100) (h2 : hi ≤ 100) :
  KOut (fun K => p93 fail fu K (encB bs) 0 (lo : Nat) (hi : Nat)) (lo : Nat) (z3m lo hi bs) := by
 have e1 := z3u lo (by omega)
 have e2 := z3u hi (by omega)
 have hraw := fun K => k2m (ρ := ρ) fail fu hf K bs hl
 unfold z3m
 cases hr : rdV bs with
 | error e =>
  have he := w8v hr
  rw [hr] at hraw
  refine ⟨by omega, encB bs, fun K => ?_⟩
  dsimp only
  rw [p93, hraw, e1, e2]
  simp only [rdK]
  by_cases hlo : (0 : Int) < (lo : Nat)
  ·rw [lssT hlo, cond_true, p93_1, cond_true, k0f _ _ _ _ _ _ (by omega)]
  ·rw [lssF (by omega), cond_false, gtrF (by omega), p93_1, cond_false, z4q (by omega), show ((lo : Nat) : Int) = 0 by omega]
 | ok x =>
  obtain ⟨v, r⟩ := x
  have hv := (w2b hr).1
  rw [hr] at hraw
  dsimp only
  by_cases hlo : v < lo
  ·rw [if_pos (.inl hlo)]
   refine ⟨by omega, encB r, fun K => ?_⟩
   dsimp only
   rw [p93, hraw, e1, e2]
   simp only [rdK]
   rw [lssT (by omega), cond_true, p93_1, cond_true, z2o]
  ·by_cases hhi : hi < v
   ·rw [if_pos (.inr hhi)]
    refine ⟨by omega, encB r, fun K => ?_⟩
    dsimp only
    rw [p93, hraw, e1, e2]
    simp only [rdK]
    rw [lssF (by omega), cond_false, gtrT (by omega), p93_1, cond_true, z2o]
   ·rw [if_neg (by omega)]
    intro K
    dsimp only
    rw [p93, hraw, e1, e2]
    simp only [rdK]
    rw [lssF (by omega), cond_false, gtrF (by omega), p93_1, cond_false, z4q (by omega)]
theorem kindE {ρ : Type} (fail : ρ) (fu : Nat) (K : Int → EL → Int → ρ) (B : EL) (e : Int) (h : e ≠ 0) (lo hi : Nat) (h1 : lo ≤ 100) (h2 : hi ≤ 100) : p93 fail fu K B e (lo : Nat) (hi : Nat) = K (lo : Nat) B e := by
 rw [p93, rawE _ _ _ _ _ h, z9o (show (0 : Int) ≤ (lo : Nat) ∧ ((lo : Nat) : Int) ≤ _ by omega), z9o (show (0 : Int) ≤ (hi : Nat) ∧ ((hi : Nat) : Int) ≤ _ by omega)]
 by_cases hlo : (0 : Int) < (lo : Nat)
 ·rw [lssT hlo, cond_true, p93_1, cond_true, k0f _ _ _ _ _ _ h]
 ·rw [lssF (by omega), cond_false, gtrF (by omega), p93_1, cond_false, z4q (by omega), show ((lo : Nat) : Int) = 0 by omega]
def rdNum (bs : List UInt8) : Except Int (Nat × List UInt8) := match rdV bs with
 | .ok (v, r) => if 1073741824 < v then .error 4 else .ok (v, r)
 | .error e => .error e
theorem z7l {ρ : Type} (fail : ρ) (fu : Nat) (hf : 10 ≤ fu) (bs : List UInt8) (hl : bs.length ≤ 1099511627776) :
  KOut (fun K => p91 fail fu K (encB bs) 0) 0 (rdNum bs) := by
 have hraw := fun K => k2m (ρ := ρ) fail fu hf K bs hl
 unfold rdNum
 cases hr : rdV bs with
 | error e =>
  have he := w8v hr
  rw [hr] at hraw
  refine ⟨by omega, encB bs, fun K => ?_⟩
  dsimp only
  rw [p91, hraw]
  simp only [rdK]
  rw [gtrF (by omega), cond_false, z4q (by omega)]
 | ok x =>
  obtain ⟨v, r⟩ := x
  have hv := (w2b hr).1
  rw [hr] at hraw
  dsimp only
  by_cases hhi : 1073741824 < v
  ·rw [if_pos hhi]
   refine ⟨by omega, encB r, fun K => ?_⟩
   dsimp only
   rw [p91, hraw]
   simp only [rdK]
   rw [gtrT (by omega), cond_true, z2o]
  ·rw [if_neg hhi]
   intro K
   dsimp only
   rw [p91, hraw]
   simp only [rdK]
   rw [gtrF (by omega), cond_false, z4q (by omega)]
theorem numE {ρ : Type} (fail : ρ) (fu : Nat) (K : Int → EL → Int → ρ) (B : EL) (e : Int) (h : e ≠ 0) : p91 fail fu K B e = K 0 B e := by
 rw [p91, rawE _ _ _ _ _ h, gtrF (by omega), cond_false, z4q (by omega)]
def rdTxt (most : Nat) (bs : List UInt8) : Except Int (List UInt8 × List UInt8) := match rdV bs with
 | .ok (v, r) => if most < v then .error 3 else if r.length < v then .error 2 else .ok (r.take v, r.drop v)
 | .error e => .error e
def SOut {ρ : Type} (p : (EL → EL → Int → ρ) → ρ) : Except Int (List UInt8 × List UInt8) → Prop
 | .ok (s, r) => ∀ K : EL → EL → Int → ρ, p K = K (encB s) (encB r) 0
 | .error e => e ≠ 0 ∧ ∃ B, ∀ K : EL → EL → Int → ρ, p K = K nilE B e
theorem w8f {ρ : Type} (fail : ρ) (fu : Nat) (hf : 10 ≤ fu) (bs : List UInt8) (hl : bs.length ≤ 1099511627776) (most : Nat) (hm : most ≤ 1000000) :
  SOut (fun K => p95 fail fu K (encB bs) 0 (most : Nat)) (rdTxt most bs) := by
 have htk := fun K => z9q (ρ := ρ) fail fu hf K bs hl
 have e1 := z3u most (by omega)
 unfold rdTxt rdV
 cases ht : tv 0 bs with
 | error e =>
  have he := w8e _ _ _ ht
  rw [ht] at htk
  refine ⟨by omega, encB bs, fun K => ?_⟩
  dsimp only
  rw [p95, neqF rfl, cond_false, p126, htk]
  simp only [tvK]
  rw [neqT (show e ≠ 0 by omega), cond_true, z2o, gd_y (by omega), gd_y (by omega), gd_y (by omega)]
  simp
 | ok x =>
  obtain ⟨v, k⟩ := x
  have hk := w5k _ _ _ _ ht
  have hv := k2k ht
  rw [ht] at htk
  have hstart : ∀ K : EL → EL → Int → ρ, p95 fail fu K (encB bs) 0 (most : Nat) = bif z0a .gtr ((v : Nat) : Int) ((most : Nat) : Int) then K nilE (encB bs) 3 else bif z0a .gtr ((v : Nat) : Int) (((bs.length : Nat) : Int) - ((k : Nat) : Int)) then K nilE (encB bs) 2 else
    K (encB ((bs.drop k).take v)) (encB ((bs.drop k).drop v)) 0 := fun K => by
   rw [p95, neqF rfl, cond_false, p126, htk]
   simp only [tvK]
   rw [neqF rfl, cond_false, if_neg (show ¬ (0 : Int) > (most : Nat) by omega), z0f]
   simp only [Nat.pow_zero, Nat.mul_one, Nat.zero_add, Nat.mul_zero]
   rw [subZ (by omega) (by omega), z9o (show 0 ≤ ((bs.length : Nat) : Int) - ((k : Nat) : Int) ∧ ((bs.length : Nat) : Int) - ((k : Nat) : Int) ≤ 18446744073709551615 by omega), e1]
   by_cases h1 : most < v
   ·rw [gtrT (by omega), cond_true, cond_true, z2o, gd_y (by omega), gd_y (by omega), gd_y (by omega)]
    simp
   ·rw [gtrF (show ((v : Nat) : Int) ≤ ((most : Nat) : Int) by omega), cond_false, cond_false]
    by_cases h2 : bs.length - k < v
    ·rw [gtrT (by omega), cond_true, cond_true, z2o, gd_y (by omega), gd_y (by omega), gd_y (by omega)]
     simp
    ·rw [gtrF (show ((v : Nat) : Int) ≤ ((bs.length : Nat) : Int) - ((k : Nat) : Int) by omega), cond_false, cond_false, z4q (show -9223372036854775808 ≤ ((v : Nat) : Int) ∧ ((v : Nat) : Int) ≤ 9223372036854775807 by omega), addZ (by omega) (by omega)]
     have hd : List.drop (((k : Nat) : Int)).toNat (List.take ((((k : Nat) : Int) + ((v : Nat) : Int))).toNat (encB bs)) = encB ((bs.drop k).take v) := by
      rw [w3j, w3k, Int.toNat_natCast, show (((k : Nat) : Int) + ((v : Nat) : Int)).toNat = k + v by omega, List.drop_take]
      congr 2; omega
     rw [hd, gd_y (by omega), gd_y (by omega), gd_y (by omega), gd_y (by omega), gd_y (by simp), gd_y (by simp; omega), z2o, gd_y (by omega), gd_y (by rw [z0f]; omega), gd_y (by omega)]
     rw [List.nil_append, show (((k : Nat) : Int) + ((v : Nat) : Int)).toNat = k + v by omega]
     congr 1
     simp [List.drop_drop]
  dsimp only
  by_cases h1 : most < v
  ·rw [if_pos h1]
   refine ⟨by omega, encB bs, fun K => ?_⟩
   dsimp only
   rw [hstart, gtrT (by omega), cond_true]
  ·rw [if_neg h1]
   by_cases h2 : (bs.drop k).length < v
   ·rw [if_pos h2]
    rw [List.length_drop] at h2
    refine ⟨by omega, encB bs, fun K => ?_⟩
    dsimp only
    rw [hstart, gtrF (by omega), cond_false, gtrT (by omega), cond_true]
   ·rw [if_neg h2]
    rw [List.length_drop] at h2
    intro K
    dsimp only
    rw [hstart, gtrF (by omega), cond_false, gtrF (by omega), cond_false]
theorem w0z {ρ : Type} (fail : ρ) (fu : Nat) (K : EL → Int → Int → ρ) (B : EL) (p m d md : Nat) (h : p ≤ 1000000 ∧ m ≤ 1000000 ∧ d ≤ 1000000 ∧ md ≤ 1000000) :
  p137 fail fu K B 0 (p : Nat) (m : Nat) (d : Nat) (md : Nat) = K B (if m < p + 1 then 3 else if md < d then 6 else 0) ((p + 1 : Nat) : Int) := by
 rw [p137, addZ (by omega) (by omega), show ((p : Nat) : Int) + 1 = ((p + 1 : Nat) : Int) by omega]
 by_cases h1 : m < p + 1
 ·rw [gtrT (by omega), cond_true, z2o, p137_1, if_pos h1]
 ·rw [gtrF (by omega), cond_false, if_neg h1]
  by_cases h2 : md < d
  ·rw [gtrT (by omega), cond_true, z2o, p137_2, p137_1, if_pos h2]
  ·rw [gtrF (by omega), cond_false, p137_2, p137_1, if_neg h2]
def p110_1 {ρ : Type} (fail : ρ) (fu : Nat) (s_p110 : (Int → Int → EL → EL → Int → Int → ρ) → EL → Int → Int → Int → ρ) (K0 : Int → Int → EL → EL → Int → Int → ρ) (rec1 : EL → Int → Int → EL → Int → ρ) (z15 : Int) (j16 : EL) (j17 j18 : Int) (j19 : EL) : ρ :=
 rec1 j16 j17 j18 j19 (z0d .add .i64 z15 1)
def p110_2 {ρ : Type} (fail : ρ) (fu : Nat) (s_p110 : (Int → Int → EL → EL → Int → Int → ρ) → EL → Int → Int → Int → ρ) (K0 : Int → Int → EL → EL → Int → Int → ρ) (rec1 : EL → Int → Int → EL → Int → ρ) (x2 y4 j9 j10 : Int) (z11 : EL) (z12 z13 : Int) (z14 : EL) (z15 : Int) : ρ :=
 bif (z0a .lss z15 j10) then (bif (z0a .eql z12 0) then (s_p110 (fun y20 y21 y22 y23 y24 y25 => gd (1 ≤ [[(CV.v (.int .i64 y20)),(CV.v (.int .i64 y21)),(CV.sl 3 y22 none)]].length) fail (gd ((z14.length + (List.take 1 [[(CV.v (.int .i64 y20)),(CV.v (.int .i64 y21)),(CV.sl 3 y22 none)]]).length) * 40 ≤ 35184372088832) fail (p110_1 fail fu s_p110 K0 rec1 z15 y23 y24 y25 (z14 ++ (List.take 1 [[(CV.v (.int .i64 y20)),(CV.v (.int .i64 y21)),(CV.sl 3 y22 none)]]))))) z11 z12 (z0d .add .i64 x2 1) z13) else (p110_1 fail fu s_p110 K0 rec1 z15 z11 z12 z13 z14)) else (K0 y4 j9 z14 z11 z12 z13)
def p110_2L {ρ : Type} (fail : ρ) (fu : Nat) (s_p110 : (Int → Int → EL → EL → Int → Int → ρ) → EL → Int → Int → Int → ρ) (K0 : Int → Int → EL → EL → Int → Int → ρ) (x2 y4 j9 j10 : Int) : Nat → EL → Int → Int → EL → Int → ρ
 | 0,_,_,_,_,_ => fail
 | n + 1,z11,z12,z13,z14,z15 => p110_2 fail fu s_p110 K0 (p110_2L fail fu s_p110 K0 x2 y4 j9 j10 n) x2 y4 j9 j10 z11 z12 z13 z14 z15
def p110_3 {ρ : Type} (fail : ρ) (fu : Nat) (s_p110 : (Int → Int → EL → EL → Int → Int → ρ) → EL → Int → Int → Int → ρ) (K0 : Int → Int → EL → EL → Int → Int → ρ) (x2 y3 y4 : Int) (j7 : EL) (j8 j9 j10 : Int) : ρ :=
 p110_2L fail fu s_p110 K0 x2 y4 j9 j10 fu j7 j8 y3 nilE 0
def p110_4 {ρ : Type} (fail : ρ) (fu : Nat) (s_p110 : (Int → Int → EL → EL → Int → Int → ρ) → EL → Int → Int → Int → ρ) (K0 : Int → Int → EL → EL → Int → Int → ρ) (x2 y3 y4 : Int) (j27 : EL) (j28 j29 j30 : Int) : ρ :=
 p110_3 fail fu s_p110 K0 x2 y3 y4 j27 j28 j29 j30
def p110_5 {ρ : Type} (fail : ρ) (fu : Nat) (s_p110 : (Int → Int → EL → EL → Int → Int → ρ) → EL → Int → Int → Int → ρ) (K0 : Int → Int → EL → EL → Int → Int → ρ) (x2 y3 y4 : Int) (j31 : EL) (j32 j33 : Int) : ρ :=
 p110_4 fail fu s_p110 K0 x2 y3 y4 j31 j32 j33 0
def p110_6 {ρ : Type} (fail : ρ) (fu : Nat) (s_p110 : (Int → Int → EL → EL → Int → Int → ρ) → EL → Int → Int → Int → ρ) (K0 : Int → Int → EL → EL → Int → Int → ρ) (x2 y3 y4 y34 : Int) (j37 : EL) (j38 : Int) : ρ :=
 p110_5 fail fu s_p110 K0 x2 y3 y4 j37 j38 y34
def p110_7 {ρ : Type} (fail : ρ) (fu : Nat) (s_p110 : (Int → Int → EL → EL → Int → Int → ρ) → EL → Int → Int → Int → ρ) (K0 : Int → Int → EL → EL → Int → Int → ρ) (x2 y3 y4 : Int) (y5 : EL) (y6 : Int) (j26 : Bool) : ρ :=
 bif j26 then (p110_4 fail fu s_p110 K0 x2 y3 y4 y5 y6 0 2) else (bif (z0a .eql y4 4) then (p91 fail fu (fun y34 y35 y36 => bif (z0a .geq y34 4) then (p94 fail fu (fun y39 y40 => p110_6 fail fu s_p110 K0 x2 y3 y4 y34 y39 y40) y35 y36 7) else (p110_6 fail fu s_p110 K0 x2 y3 y4 y34 y35 y36)) y5 y6) else (p110_5 fail fu s_p110 K0 x2 y3 y4 y5 y6 0))
def p110_b {ρ : Type} (fail : ρ) (fu : Nat) (s_p110 : (Int → Int → EL → EL → Int → Int → ρ) → EL → Int → Int → Int → ρ) (K0 : Int → Int → EL → EL → Int → Int → ρ) (x0 : EL) (x1 x2 x3 : Int) : ρ :=
 p137 fail fu (fun y1 y2 y3 => bif (z0a .neq y2 0) then (K0 0 0 nilE y1 y2 y3) else (p93 fail fu (fun y4 y5 y6 => bif (z0a .eql y4 1) then (p110_3 fail fu s_p110 K0 x2 y3 y4 y5 y6 0 1) else (bif (z0a .eql y4 2) then (p110_7 fail fu s_p110 K0 x2 y3 y4 y5 y6 (z0a .eql y4 2)) else (p110_7 fail fu s_p110 K0 x2 y3 y4 y5 y6 (z0a .eql y4 3)))) y1 y2 0 4)) x0 x1 x3 64 x2 32
def p110 {ρ : Type} (fail : ρ) : Nat → (Int → Int → EL → EL → Int → Int → ρ) → EL → Int → Int → Int → ρ
 | 0,_,_,_,_,_ => fail
 | n + 1,K0,x0,x1,x2,x3 => p110_b fail n (p110 fail n) K0 x0 x1 x2 x3
def p67 {ρ : Type} (fail : ρ) (fu : Nat) (K0 : Int → Int → EL → EL → Int → ρ) (x0 : EL) (x1 : Int) : ρ :=
 p110 fail fu (fun y1 y2 y3 y4 y5 y6 => K0 y1 y2 y3 y4 y5) x0 x1 1 0
def D_p110 (fu : Nat) : Prop := ∀ {K0 : Int → Int → EL → EL → Int → Int → Prop} (L : EL → Nat) (_ : L = List.length) {x0 : EL} {x1 x2 x3 : Int} (_ : p110 False fu K0 x0 x1 x2 x3),Den Try.prog G0 110 [.ptr [.c (.sl 1 x0 none),.c (.v (.int .i64 x1))],.c (.v (.int .i64 x2)),.ptr [.c (.v (.int .i64 x3))]] (fun r bs => (∃ (y0 y1 : Int) (y2 y3 : EL) (y4 y5 : Int) (o1 : OV),(r = .agg [.c (.v (.int .i64 y0)),.c (.v (.int .i64 y1)),.c (.sl 3 y2 none)] ∧ bs = [.ptr [.c (.sl 1 y3 none),.c (.v (.int .i64 y4))],o1,.ptr [.c (.v (.int .i64 y5))]]) ∧ K0 y0 y1 y2 y3 y4 y5))
theorem b_p110 (fu : Nat) (ih_p110 : D_p110 fu) {K0 : Int → Int → EL → EL → Int → Int → Prop} (L : EL → Nat) (hN : L = List.length) {x0 : EL} {x1 x2 x3 : Int} (h : p110_b False fu (p110 False fu) K0 x0 x1 x2 x3) : Den Try.prog G0 110 [.ptr [.c (.sl 1 x0 none),.c (.v (.int .i64 x1))],.c (.v (.int .i64 x2)),.ptr [.c (.v (.int .i64 x3))]] (fun r bs => (∃ (y0 y1 : Int) (y2 y3 : EL) (y4 y5 : Int) (o1 : OV),(r = .agg [.c (.v (.int .i64 y0)),.c (.v (.int .i64 y1)),.c (.sl 3 y2 none)] ∧ bs = [.ptr [.c (.sl 1 y3 none),.c (.v (.int .i64 y4))],o1,.ptr [.c (.v (.int .i64 y5))]]) ∧ K0 y0 y1 y2 y3 y4 y5)) := by
 obtain ⟨O,hO⟩ : ∃ O,O = std 2 T G0 (Den Try.prog G0) := ⟨_,rfl⟩
 have hLO : L = O.len := by rw [hN,hO]; rfl
 subst hLO
 refine den_h hO tiA mixed tabOk (fn := Try.f110) (sh := true) (by kernel_rfl) rfl rfl rfl rfl ?_
 intro Q hQ
 unfold p110_b at h
 conv => cbv
 refine z0c hO [.ref 2,.ref 1,.shut,.shut,.shut] (d_p137 fu O.len hN h) ?_
 intro os Q hos hQ
 conv => cbv
 refine ⟨(by (rw [hos]) <;> (subst hO; rfl)),?_⟩
 intro r bs hq
 rw [hQ] at hq
 clear hos hQ h
 obtain ⟨y1,y2,y3,_,_,_,⟨rfl,rfl⟩,h⟩ := hq
 conv => cbv
 refine br_h hO h (by subst hO; rfl) (fun hc1 h => ?_) (fun hc1 h => ?_)
 conv => cbv
 rw [hQ]
 exact ⟨0,0,nilE,y1,y2,y3,_,⟨(by subst hO; rfl),(by subst hO; rfl)⟩,h⟩
 conv => cbv
 refine z0b hO ?_
 conv => cbv
 refine z0c hO [.ref 2,.shut,.shut] (d_p93 fu O.len hN h) ?_
 intro os Q hos hQ
 conv => cbv
 refine ⟨(by (rw [hos]) <;> (subst hO; rfl)),?_⟩
 intro r bs hq
 rw [hQ] at hq
 clear hos hQ h
 obtain ⟨y4,y5,y6,_,_,⟨rfl,rfl⟩,h⟩ := hq
 conv => cbv
 refine z0h hO tiA h (by subst hO; rfl) [0,1,2,6,7,8] [0,1,7000,8000] [] (fun tm m => ∃ (j7 : EL) (j8 : Int) (j9 : Int) (j10 : Int),((tm = frame 0 59 [(0,.p 0 0 0),(1,.c (.v (.int .i64 x2))),(2,.p 1 1 0),(6,.p 7000 2 0),(7,.p 8000 2 0),(8,.c (.v (.int .i64 j10)))] ∧ m = ⟨[(0,.blk 0 [.c (.sl 1 j7 none),.c (.v (.int .i64 j8))]),(1,.blk 1 [.c (.v (.int .i64 y3))]),(7000,.blk 2 [.c (.v (.int .i64 0)),.c (.v (.int .i64 0)),.c (.sl 3 [] (some []))]),(8000,.blk 2 [.c (.v (.int .i64 y4)),.c (.v (.int .i64 j9)),.c (.sl 3 [] (some []))])],3⟩)) ∧ p110_3 False fu (p110 False fu) K0 x2 y3 y4 j7 j8 j9 j10) (fun hc4 h L hL_3 => ?_) (fun hc4 h L hL_3 => ?_) ?_
 conv => cbv
 exact hL_3 _ _ ⟨y5,y6,0,1,⟨(by (conv => lhs; cbv) <;> (subst hO; rfl)),(by (conv => lhs; cbv) <;> (subst hO; rfl))⟩,h⟩
 conv => cbv
 refine z0h hO tiA h (by subst hO; rfl) [0,1,2,6,7,8,23,26] [0,1,7000,8000] [] (fun tm m => ∃ (j26 : Bool),((tm = frame 0 59 [(0,.p 0 0 0),(1,.c (.v (.int .i64 x2))),(2,.p 1 1 0),(6,.p 7000 2 0),(7,.p 8000 2 0),(8,.c (.v (.int .i64 0))),(23,.c (.v (.int .i64 y4))),(26,.c (.v (.bool j26)))] ∧ m = ⟨[(0,.blk 0 [.c (.sl 1 y5 none),.c (.v (.int .i64 y6))]),(1,.blk 1 [.c (.v (.int .i64 y3))]),(7000,.blk 2 [.c (.v (.int .i64 0)),.c (.v (.int .i64 0)),.c (.sl 3 [] (some []))]),(8000,.blk 2 [.c (.v (.int .i64 y4)),.c (.v (.int .i64 0)),.c (.sl 3 [] (some []))])],3⟩)) ∧ p110_7 False fu (p110 False fu) K0 x2 y3 y4 y5 y6 j26) (fun hc8 h L hL_7 => ?_) (fun hc8 h L hL_7 => ?_) ?_
 conv => cbv
 exact hL_7 _ _ ⟨(z0a .eql y4 2),⟨(by (conv => lhs; cbv) <;> (subst hO; rfl)),(by (conv => lhs; cbv) <;> (subst hO; rfl))⟩,h⟩
 conv => cbv
 exact hL_7 _ _ ⟨(z0a .eql y4 3),⟨(by (conv => lhs; cbv) <;> (subst hO; rfl)),(by (conv => lhs; cbv) <;> (subst hO; rfl))⟩,h⟩
 rintro tm m ⟨j26,hs,h⟩
 unfold p110_7 at h
 obtain ⟨rfl,rfl⟩ := hs
 conv => cbv
 refine z0h hO tiA h (by subst hO; rfl) [0,1,2,6,7,8] [0,1,7000,8000] [] (fun tm m => ∃ (j27 : EL) (j28 : Int) (j29 : Int) (j30 : Int),((tm = frame 0 59 [(0,.p 0 0 0),(1,.c (.v (.int .i64 x2))),(2,.p 1 1 0),(6,.p 7000 2 0),(7,.p 8000 2 0),(8,.c (.v (.int .i64 j30)))] ∧ m = ⟨[(0,.blk 0 [.c (.sl 1 j27 none),.c (.v (.int .i64 j28))]),(1,.blk 1 [.c (.v (.int .i64 y3))]),(7000,.blk 2 [.c (.v (.int .i64 0)),.c (.v (.int .i64 0)),.c (.sl 3 [] (some []))]),(8000,.blk 2 [.c (.v (.int .i64 y4)),.c (.v (.int .i64 j29)),.c (.sl 3 [] (some []))])],3⟩)) ∧ p110_4 False fu (p110 False fu) K0 x2 y3 y4 j27 j28 j29 j30) (fun hc5 h L hL_4 => ?_) (fun hc5 h L hL_4 => ?_) ?_
 conv => cbv
 exact hL_4 _ _ ⟨y5,y6,0,2,⟨(by (conv => lhs; cbv) <;> (subst hO; rfl)),(by (conv => lhs; cbv) <;> (subst hO; rfl))⟩,h⟩
 conv => cbv
 refine z0h hO tiA h (by subst hO; rfl) [0,1,2,6,7,8] [0,1,7000,8000] [] (fun tm m => ∃ (j31 : EL) (j32 : Int) (j33 : Int),((tm = frame 0 59 [(0,.p 0 0 0),(1,.c (.v (.int .i64 x2))),(2,.p 1 1 0),(6,.p 7000 2 0),(7,.p 8000 2 0),(8,.c (.v (.int .i64 0)))] ∧ m = ⟨[(0,.blk 0 [.c (.sl 1 j31 none),.c (.v (.int .i64 j32))]),(1,.blk 1 [.c (.v (.int .i64 y3))]),(7000,.blk 2 [.c (.v (.int .i64 0)),.c (.v (.int .i64 0)),.c (.sl 3 [] (some []))]),(8000,.blk 2 [.c (.v (.int .i64 y4)),.c (.v (.int .i64 j33)),.c (.sl 3 [] (some []))])],3⟩)) ∧ p110_5 False fu (p110 False fu) K0 x2 y3 y4 j31 j32 j33) (fun hc6 h L hL_5 => ?_) (fun hc6 h L hL_5 => ?_) ?_
 conv => cbv
 refine z0c hO [.ref 2] (d_p91 fu O.len hN h) ?_
 intro os Q hos hQ
 conv => cbv
 refine ⟨(by (rw [hos]) <;> (subst hO; rfl)),?_⟩
 intro r bs hq
 rw [hQ] at hq
 clear hos hQ h
 obtain ⟨y34,y35,y36,⟨rfl,rfl⟩,h⟩ := hq
 conv => cbv
 refine z0h hO tiA h (by subst hO; rfl) [0,1,2,6,7,8] [0,1,7000,8000] [] (fun tm m => ∃ (j37 : EL) (j38 : Int),((tm = frame 0 59 [(0,.p 0 0 0),(1,.c (.v (.int .i64 x2))),(2,.p 1 1 0),(6,.p 7000 2 0),(7,.p 8000 2 0),(8,.c (.v (.int .i64 0)))] ∧ m = ⟨[(0,.blk 0 [.c (.sl 1 j37 none),.c (.v (.int .i64 j38))]),(1,.blk 1 [.c (.v (.int .i64 y3))]),(7000,.blk 2 [.c (.v (.int .i64 0)),.c (.v (.int .i64 0)),.c (.sl 3 [] (some []))]),(8000,.blk 2 [.c (.v (.int .i64 y4)),.c (.v (.int .i64 y34)),.c (.sl 3 [] (some []))])],3⟩)) ∧ p110_6 False fu (p110 False fu) K0 x2 y3 y4 y34 j37 j38) (fun hc7 h L hL_6 => ?_) (fun hc7 h L hL_6 => ?_) ?_
 conv => cbv
 refine z0c hO [.ref 2,.shut] (d_p94 fu O.len hN h) ?_
 intro os Q hos hQ
 conv => cbv
 refine ⟨(by (rw [hos]) <;> (subst hO; rfl)),?_⟩
 intro r bs hq
 rw [hQ] at hq
 clear hos hQ h
 obtain ⟨y39,y40,_,⟨rfl,rfl⟩,h⟩ := hq
 conv => cbv
 exact hL_6 _ _ ⟨y39,y40,⟨(by (conv => lhs; cbv) <;> (subst hO; rfl)),(by (conv => lhs; cbv) <;> (subst hO; rfl))⟩,h⟩
 conv => cbv
 exact hL_6 _ _ ⟨y35,y36,⟨(by (conv => lhs; cbv) <;> (subst hO; rfl)),(by (conv => lhs; cbv) <;> (subst hO; rfl))⟩,h⟩
 rintro tm m ⟨j37,j38,hs,h⟩
 unfold p110_6 at h
 obtain ⟨rfl,rfl⟩ := hs
 conv => cbv
 exact hL_5 _ _ ⟨j37,j38,y34,⟨(by (conv => lhs; cbv) <;> (subst hO; rfl)),(by (conv => lhs; cbv) <;> (subst hO; rfl))⟩,h⟩
 conv => cbv
 exact hL_5 _ _ ⟨y5,y6,0,⟨(by (conv => lhs; cbv) <;> (subst hO; rfl)),(by (conv => lhs; cbv) <;> (subst hO; rfl))⟩,h⟩
 rintro tm m ⟨j31,j32,j33,hs,h⟩
 unfold p110_5 at h
 obtain ⟨rfl,rfl⟩ := hs
 conv => cbv
 exact hL_4 _ _ ⟨j31,j32,j33,0,⟨(by (conv => lhs; cbv) <;> (subst hO; rfl)),(by (conv => lhs; cbv) <;> (subst hO; rfl))⟩,h⟩
 rintro tm m ⟨j27,j28,j29,j30,hs,h⟩
 unfold p110_4 at h
 obtain ⟨rfl,rfl⟩ := hs
 conv => cbv
 exact hL_3 _ _ ⟨j27,j28,j29,j30,⟨(by (conv => lhs; cbv) <;> (subst hO; rfl)),(by (conv => lhs; cbv) <;> (subst hO; rfl))⟩,h⟩
 rintro tm m ⟨j7,j8,j9,j10,hs,h⟩
 unfold p110_3 at h
 obtain ⟨rfl,rfl⟩ := hs
 conv => cbv
 refine z0s hO tiA [0,1,2,6,7,39,40] [0,1,7000,8000,56000] [] (fun (n : Nat) tm m => ∃ (z11 : EL) (z12 : Int) (z13 : Int) (z14 : EL) (z15 : Int),((z14 = [] ∧ tm = frame 0 59 [(0,.p 0 0 0),(1,.c (.v (.int .i64 x2))),(2,.p 1 1 0),(6,.p 7000 2 0),(7,.p 8000 2 0),(39,.c (.v (.int .i64 j10))),(40,.c (.v (.int .i64 z15)))] ∧ m = ⟨[(0,.blk 0 [.c (.sl 1 z11 none),.c (.v (.int .i64 z12))]),(1,.blk 1 [.c (.v (.int .i64 z13))]),(7000,.blk 2 [.c (.v (.int .i64 0)),.c (.v (.int .i64 0)),.c (.sl 3 [] (some []))]),(8000,.blk 2 [.c (.v (.int .i64 y4)),.c (.v (.int .i64 j9)),.c (.sl 3 [] (some []))])],3⟩) ∨ (tm = frame 0 59 [(0,.p 0 0 0),(1,.c (.v (.int .i64 x2))),(2,.p 1 1 0),(6,.p 7000 2 0),(7,.p 8000 2 0),(39,.c (.v (.int .i64 j10))),(40,.c (.v (.int .i64 z15)))] ∧ m = ⟨[(0,.blk 0 [.c (.sl 1 z11 none),.c (.v (.int .i64 z12))]),(1,.blk 1 [.c (.v (.int .i64 z13))]),(7000,.blk 2 [.c (.v (.int .i64 0)),.c (.v (.int .i64 0)),.c (.sl 3 [] (some []))]),(8000,.blk 2 [.c (.v (.int .i64 y4)),.c (.v (.int .i64 j9)),.t 56000 2 (O.len z14)]),(56000,.arr 2 3 z14 none false)],3⟩)) ∧ p110_2L False fu (p110 False fu) K0 x2 y4 j9 j10 n z11 z12 z13 z14 z15) (fun n => n) fu ⟨j7,j8,y3,nilE,0,(.inl ⟨rfl,(by (conv => lhs; cbv) <;> (subst hO; rfl)),(by (conv => lhs; cbv) <;> (subst hO; rfl))⟩),h⟩ ?_
 rintro n1 tm m L ⟨z11,z12,z13,z14,z15,hs,h⟩ hLn1
 (cases n1 with
 | zero => rw [p110_2L] at h; exact h.elim
 | succ n1 =>
 rw [p110_2L] at h
 unfold p110_2 at h
 rcases hs with hs | hs
 obtain ⟨rfl,rfl,rfl⟩ := hs
 conv => cbv
 refine br_h hO h (by subst hO; rfl) (fun hc2 h => ?_) (fun hc2 h => ?_)
 conv => cbv
 refine z0b hO ?_
 conv => cbv
 refine z0h hO tiA h (by subst hO; rfl) [0,1,2,6,7,39,40] [0,1,7000,8000,56000] [] (fun tm m => ∃ (j16 : EL) (j17 : Int) (j18 : Int) (j19 : EL),((tm = frame 0 59 [(0,.p 0 0 0),(1,.c (.v (.int .i64 x2))),(2,.p 1 1 0),(6,.p 7000 2 0),(7,.p 8000 2 0),(39,.c (.v (.int .i64 j10))),(40,.c (.v (.int .i64 z15)))] ∧ m = ⟨[(0,.blk 0 [.c (.sl 1 j16 none),.c (.v (.int .i64 j17))]),(1,.blk 1 [.c (.v (.int .i64 j18))]),(7000,.blk 2 [.c (.v (.int .i64 0)),.c (.v (.int .i64 0)),.c (.sl 3 [] (some []))]),(8000,.blk 2 [.c (.v (.int .i64 y4)),.c (.v (.int .i64 j9)),.t 56000 2 (O.len j19)]),(56000,.arr 2 3 j19 none false)],3⟩) ∨ (j19 = [] ∧ tm = frame 0 59 [(0,.p 0 0 0),(1,.c (.v (.int .i64 x2))),(2,.p 1 1 0),(6,.p 7000 2 0),(7,.p 8000 2 0),(39,.c (.v (.int .i64 j10))),(40,.c (.v (.int .i64 z15)))] ∧ m = ⟨[(0,.blk 0 [.c (.sl 1 j16 none),.c (.v (.int .i64 j17))]),(1,.blk 1 [.c (.v (.int .i64 j18))]),(7000,.blk 2 [.c (.v (.int .i64 0)),.c (.v (.int .i64 0)),.c (.sl 3 [] (some []))]),(8000,.blk 2 [.c (.v (.int .i64 y4)),.c (.v (.int .i64 j9)),.c (.sl 3 [] (some []))])],3⟩)) ∧ p110_1 False fu (p110 False fu) K0 (p110_2L False fu (p110 False fu) K0 x2 y4 j9 j10 n1) z15 j16 j17 j18 j19) (fun hc3 h L hL_1 => ?_) (fun hc3 h L hL_1 => ?_) ?_
 conv => cbv
 refine z0i hO tiA [[0,1],[],[],[],[]] [(0,true,false),(1,true,false),(2,true,false),(3,true,false),(4,true,false),(5,true,false),(6,false,false),(7,false,false),(8,false,true),(9,true,true),(10,false,true)] (by kernel_rfl) ?_
 conv => cbv
 refine z0c hO [.ref 2,.shut,.ref 1] (ih_p110 O.len hN h) ?_
 intro os Q hos hQ
 conv => cbv
 refine ⟨(by (rw [hos]) <;> (subst hO; rfl)),?_⟩
 intro r bs hq
 rw [hQ] at hq
 clear hos hQ h
 obtain ⟨y20,y21,y22,y23,y24,y25,_,⟨rfl,rfl⟩,h⟩ := hq
 conv => cbv
 refine ⟨z0e hO (Nat.le_of_ble_eq_true rfl) rfl,?_⟩
 refine ⟨z0e hO (Nat.le_of_ble_eq_true rfl) rfl,?_⟩
 refine z0v hO h (fun g => (by subst hO; exact g)) (fun h => ?_)
 conv => cbv
 refine and_h h (fun g => (by subst hO; exact g)) (fun h => ?_)
 refine z3r hO (by subst hO; exact List.cons_ne_nil _ _) ?_
 conv => cbv
 refine z0b hO ?_
 conv => cbv
 exact hL_1 _ _ ⟨y23,y24,y25,(nilE ++ (List.take 1 [[(CV.v (.int .i64 y20)),(CV.v (.int .i64 y21)),(CV.sl 3 y22 none)]])),(.inl ⟨(by (conv => lhs; cbv) <;> (subst hO; rfl)),(by (conv => lhs; cbv) <;> (subst hO; rfl))⟩),h⟩
 conv => cbv
 exact hL_1 _ _ ⟨z11,z12,z13,nilE,(.inr ⟨rfl,(by (conv => lhs; cbv) <;> (subst hO; rfl)),(by (conv => lhs; cbv) <;> (subst hO; rfl))⟩),h⟩
 rintro tm m ⟨j16,j17,j18,j19,hs,h⟩
 unfold p110_1 at h
 rcases hs with hs | hs
 obtain ⟨rfl,rfl⟩ := hs
 conv => cbv
 exact hLn1 n1 _ _ (Nat.lt_succ_self n1) ⟨j16,j17,j18,j19,z0d .add .i64 z15 1,(.inr ⟨(by (conv => lhs; cbv) <;> (subst hO; rfl)),(by (conv => lhs; cbv) <;> (subst hO; rfl))⟩),h⟩
 obtain ⟨rfl,rfl,rfl⟩ := hs
 conv => cbv
 exact hLn1 n1 _ _ (Nat.lt_succ_self n1) ⟨j16,j17,j18,nilE,z0d .add .i64 z15 1,(.inl ⟨rfl,(by (conv => lhs; cbv) <;> (subst hO; rfl)),(by (conv => lhs; cbv) <;> (subst hO; rfl))⟩),h⟩
 conv => cbv
 rw [hQ]
 exact ⟨y4,j9,nilE,z11,z12,z13,_,⟨(by subst hO; rfl),(by subst hO; rfl)⟩,h⟩
 obtain ⟨rfl,rfl⟩ := hs
 conv => cbv
 refine br_h hO h (by subst hO; rfl) (fun hc2 h => ?_) (fun hc2 h => ?_)
 conv => cbv
 refine z0b hO ?_
 conv => cbv
 refine z0h hO tiA h (by subst hO; rfl) [0,1,2,6,7,39,40] [0,1,7000,8000,56000] [] (fun tm m => ∃ (j16 : EL) (j17 : Int) (j18 : Int) (j19 : EL),((tm = frame 0 59 [(0,.p 0 0 0),(1,.c (.v (.int .i64 x2))),(2,.p 1 1 0),(6,.p 7000 2 0),(7,.p 8000 2 0),(39,.c (.v (.int .i64 j10))),(40,.c (.v (.int .i64 z15)))] ∧ m = ⟨[(0,.blk 0 [.c (.sl 1 j16 none),.c (.v (.int .i64 j17))]),(1,.blk 1 [.c (.v (.int .i64 j18))]),(7000,.blk 2 [.c (.v (.int .i64 0)),.c (.v (.int .i64 0)),.c (.sl 3 [] (some []))]),(8000,.blk 2 [.c (.v (.int .i64 y4)),.c (.v (.int .i64 j9)),.t 56000 2 (O.len j19)]),(56000,.arr 2 3 j19 none false)],3⟩)) ∧ p110_1 False fu (p110 False fu) K0 (p110_2L False fu (p110 False fu) K0 x2 y4 j9 j10 n1) z15 j16 j17 j18 j19) (fun hc3 h L hL_1 => ?_) (fun hc3 h L hL_1 => ?_) ?_
 conv => cbv
 refine z0i hO tiA [[0,1],[],[],[],[]] [(0,true,false),(1,true,false),(2,true,false),(3,true,false),(4,true,false),(5,true,false),(6,false,false),(7,false,false),(8,false,true),(9,true,true),(10,false,true)] (by kernel_rfl) ?_
 conv => cbv
 refine z0c hO [.ref 2,.shut,.ref 1] (ih_p110 O.len hN h) ?_
 intro os Q hos hQ
 conv => cbv
 refine ⟨(by (rw [hos]) <;> (subst hO; rfl)),?_⟩
 intro r bs hq
 rw [hQ] at hq
 clear hos hQ h
 obtain ⟨y20,y21,y22,y23,y24,y25,_,⟨rfl,rfl⟩,h⟩ := hq
 conv => cbv
 refine ⟨z0e hO (Nat.le_of_ble_eq_true rfl) rfl,?_⟩
 refine ⟨z0e hO (Nat.le_of_ble_eq_true rfl) rfl,?_⟩
 refine z0v hO h (fun g => (by subst hO; exact g)) (fun h => ?_)
 conv => cbv
 refine ⟨(by subst hO; rfl),?_⟩
 refine and_h h (fun g => (by subst hO; exact g)) (fun h => ?_)
 refine z0b hO ?_
 conv => cbv
 exact hL_1 _ _ ⟨y23,y24,y25,(z14 ++ (List.take 1 [[(CV.v (.int .i64 y20)),(CV.v (.int .i64 y21)),(CV.sl 3 y22 none)]])),⟨(by (conv => lhs; cbv) <;> (subst hO; rfl)),(by (conv => lhs; cbv) <;> (subst hO; rfl))⟩,h⟩
 conv => cbv
 exact hL_1 _ _ ⟨z11,z12,z13,z14,⟨(by (conv => lhs; cbv) <;> (subst hO; rfl)),(by (conv => lhs; cbv) <;> (subst hO; rfl))⟩,h⟩
 rintro tm m ⟨j16,j17,j18,j19,hs,h⟩
 unfold p110_1 at h
 obtain ⟨rfl,rfl⟩ := hs
 conv => cbv
 exact hLn1 n1 _ _ (Nat.lt_succ_self n1) ⟨j16,j17,j18,j19,z0d .add .i64 z15 1,(.inr ⟨(by (conv => lhs; cbv) <;> (subst hO; rfl)),(by (conv => lhs; cbv) <;> (subst hO; rfl))⟩),h⟩
 conv => cbv
 refine z0m hO ?_
 conv => cbv
 rw [hQ]
 exact ⟨y4,j9,z14,z11,z12,z13,_,⟨(by subst hO; rfl),(by subst hO; rfl)⟩,h⟩)
theorem dd_p110 (fu : Nat) : D_p110 fu := by
 induction fu with
 | zero => unfold D_p110; intros; rename_i h; rw [p110] at h; exact h.elim
 | succ n ih =>
  exact (by unfold D_p110; intro K0 L hN x0 x1 x2 x3 h; exact b_p110 n ih L hN (by rw [p110] at h; exact h))
theorem d_p110 (fu : Nat) : D_p110 fu := dd_p110 fu
theorem d_p67 (fu : Nat) {K0 : Int → Int → EL → EL → Int → Prop} (L : EL → Nat) (hN : L = List.length) {x0 : EL} {x1 : Int} (h : p67 False fu K0 x0 x1) : Den Try.prog G0 67 [.ptr [.c (.sl 1 x0 none),.c (.v (.int .i64 x1))]] (fun r bs => (∃ (y0 y1 : Int) (y2 y3 : EL) (y4 : Int),(r = .agg [.c (.v (.int .i64 y0)),.c (.v (.int .i64 y1)),.c (.sl 3 y2 none)] ∧ bs = [.ptr [.c (.sl 1 y3 none),.c (.v (.int .i64 y4))]]) ∧ K0 y0 y1 y2 y3 y4)) := by
 obtain ⟨O,hO⟩ : ∃ O,O = std 1 T G0 (Den Try.prog G0) := ⟨_,rfl⟩
 have hLO : L = O.len := by rw [hN,hO]; rfl
 subst hLO
 refine den_h hO tiA mixed tabOk (fn := Try.f67) (sh := true) (by kernel_rfl) rfl rfl rfl rfl ?_
 intro Q hQ
 unfold p67 at h
 conv => cbv
 refine z0c hO [.ref 2,.shut,.ref 1] (d_p110 fu O.len hN h) ?_
 intro os Q hos hQ
 conv => cbv
 refine ⟨(by (rw [hos]) <;> (subst hO; rfl)),?_⟩
 intro r bs hq
 rw [hQ] at hq
 clear hos hQ h
 obtain ⟨y1,y2,y3,y4,y5,y6,_,⟨rfl,rfl⟩,h⟩ := hq
 conv => cbv
 rw [hQ]
 exact ⟨y1,y2,y3,y4,y5,⟨(by subst hO; rfl),(by subst hO; rfl)⟩,h⟩
inductive Lv where
 | mk (k n : Int) (args : List Lv)
def Lv.k : Lv → Int
 | .mk k _ _ => k
def Lv.n : Lv → Int
 | .mk _ n _ => n
def Lv.args : Lv → List Lv
 | .mk _ _ l => l
mutual
def Lv.row : Lv → List CV
 | .mk k n l => [.v (.int .i64 k), .v (.int .i64 n), .sl 3 (Lv.rows l) none]
def Lv.rows : List Lv → EL
 | [] => []
 | a :: l => Lv.row a :: Lv.rows l
end
theorem Lv.row_eq (l : Lv) : l.row = [.v (.int .i64 l.k), .v (.int .i64 l.n), .sl 3 (Lv.rows l.args) none] := by cases l; rfl
theorem Lv.rows_len : ∀ l : List Lv, (Lv.rows l).length = l.length
 | [] => rfl
 | _ :: l => by simp [Lv.rows, Lv.rows_len l]
theorem Lv.rows_append : ∀ a b : List Lv, Lv.rows (a ++ b) = Lv.rows a ++ Lv.rows b
 | [], _ => rfl
 | x :: a, b => by simp [Lv.rows, Lv.rows_append a b]
theorem Lv.rows_get {l : List Lv} {i : Nat} (h : i < l.length) : (Lv.rows l).getD i [] = l[i].row := by
 induction l generalizing i with
 | nil => simp at h
 | cons a l ih => cases i with
  | zero => rfl
  | succ i => simpa [Lv.rows] using ih (by simpa using h)
def many {α : Type} (f : Nat → List UInt8 → Except Int (α × List UInt8 × Nat)) : Nat → Nat → List UInt8 → Except Int (List α × List UInt8 × Nat)
 | 0, p, bs => .ok ([], bs, p)
 | n + 1, p, bs => match f p bs with
  | .error e => .error e
  | .ok (a, bs, p) => match many f n p bs with
   | .error e => .error e
   | .ok (l, bs, p) => .ok (a :: l, bs, p)
def lvN (k : Nat) : Nat := if k = 1 then 1 else if k = 2 then 2 else if k = 3 then 2 else 0
def rdLv : Nat → Nat → List UInt8 → Except Int (Lv × List UInt8 × Nat)
 | 0, p, _ => if 64 < p + 1 then .error 3 else .error 6
 | left + 1, p, bs => if 64 < p + 1 then .error 3 else match z3m 0 4 bs with
  | .error e => .error e
  | .ok (k, bs) => if k = 4 then (match rdNum bs with
    | .error e => .error e
    | .ok (n, bs) => if 4 ≤ n then .error 7 else .ok (.mk 4 (n : Nat) [], bs, p + 1))
   else match many (rdLv left) (lvN k) (p + 1) bs with
    | .error e => .error e
    | .ok (l, bs, p) => .ok (.mk (k : Nat) 0 l, bs, p)
theorem z2n {lo hi : Nat} {bs r : List UInt8} {v : Nat} (h : z3m lo hi bs = .ok (v, r)) : lo ≤ v ∧ v ≤ hi ∧ r.length < bs.length ∧ bs = varB v ++ r := by
 unfold z3m at h; split at h
 ·rename_i v' r' hr
  split at h
  ·cases h
  ·injection h with h; injection h with h1 h2; subst h1; subst h2
   have := w2b hr
   exact ⟨by omega, by omega, this.2⟩
 ·cases h
theorem z1m {bs r : List UInt8} {v : Nat} (h : rdNum bs = .ok (v, r)) : v ≤ 1073741824 ∧ r.length < bs.length ∧ bs = varB v ++ r := by
 unfold rdNum at h; split at h
 ·rename_i v' r' hr
  split at h
  ·cases h
  ·injection h with h; injection h with h1 h2; subst h1; subst h2
   have := w2b hr
   exact ⟨by omega, this.2⟩
 ·cases h
theorem z3p {α : Type} {f : Nat → List UInt8 → Except Int (α × List UInt8 × Nat)} {m : Nat} (hf : ∀ p bs a r q, p ≤ m → f p bs = .ok (a, r, q) → r.length ≤ bs.length ∧ q ≤ m) : ∀ (n p : Nat) (bs : List UInt8) (l : List α) (r : List UInt8) (q : Nat), p ≤ m → many f n p bs = .ok (l, r, q) → r.length ≤ bs.length ∧ q ≤ m ∧ l.length = n
 | 0, p, bs, l, r, q, hp, h => by simp only [many] at h; injection h with h; injection h with h1 h; injection h with h2 h3; subst h1 h2 h3; exact ⟨Nat.le_refl _, hp, rfl⟩
 | n + 1, p, bs, l, r, q, hp, h => by
  simp only [many] at h
  split at h
  ·cases h
  ·rename_i a bs1 p1 h1
   split at h
   ·cases h
   ·rename_i l' bs2 p2 h2
    injection h with h; injection h with h3 h; injection h with h4 h5; subst h3 h4 h5
    obtain ⟨h6, h7⟩ := hf _ _ _ _ _ hp h1
    obtain ⟨h8, h9, h10⟩ := z3p hf n p1 bs1 l' bs2 p2 h7 h2
    exact ⟨by omega, h9, by simp [h10]⟩
theorem w0v : ∀ (left p : Nat) (bs : List UInt8) (l : Lv) (r : List UInt8) (q : Nat), p ≤ 64 → rdLv left p bs = .ok (l, r, q) → r.length ≤ bs.length ∧ q ≤ 64
 | 0, p, bs, l, r, q, hp, h => by simp only [rdLv] at h; split at h <;> cases h
 | left + 1, p, bs, l, r, q, hp, h => by
  simp only [rdLv] at h
  split at h
  ·cases h
  ·split at h
   ·cases h
   ·rename_i k bs1 hk
    have h1 := z2n hk
    split at h
    ·split at h
     ·cases h
     ·rename_i n bs2 hn
      have h2 := z1m hn
      split at h
      ·cases h
      ·injection h with h; injection h with _ h; injection h with h3 h4; subst h3 h4; exact ⟨by omega, by omega⟩
    ·split at h
     ·cases h
     ·rename_i l2 bs2 p2 hm
      injection h with h; injection h with _ h; injection h with h3 h4; subst h3 h4
      have := z3p (m := 64) (fun p bs a r q => w0v left p bs a r q) _ _ _ _ _ _ (by omega) hm
      exact ⟨by omega, this.2.1⟩
abbrev LK (ρ : Type) := Int → Int → EL → EL → Int → Int → ρ
def LvOut {ρ : Type} (p : LK ρ → ρ) : Except Int (Lv × List UInt8 × Nat) → Prop
 | .ok (l, bs, q) => ∀ K : LK ρ, p K = K l.k l.n (Lv.rows l.args) (encB bs) 0 (q : Nat)
 | .error e => e ≠ 0 ∧ ∃ a b c B q, ∀ K : LK ρ, p K = K a b c B e q
theorem w4n {ρ : Type} (fail : ρ) (fu : Nat) (s : LK ρ → EL → Int → Int → Int → ρ) (K : LK ρ) (d k j : Int) (B : EL) (e q : Int) (z : EL) (he : e ≠ 0) : ∀ (r n : Nat) (i : Int), 0 ≤ i → i + (r : Nat) ≤ 1000 → r < n →
  p110_2L fail fu s K d k j (i + (r : Nat)) n B e q z i = K k j z B e q
 | 0, n + 1, i, hi, h1, h2 => by
  rw [p110_2L, p110_2, lssF (by omega), cond_false]
 | r + 1, n + 1, i, hi, h1, h2 => by
  rw [p110_2L, p110_2, lssT (by omega), cond_true, eqlF he, cond_false, p110_1, addZ (by omega) (by omega)]
  have := w4n fail fu s K d k j B e q z he r n (i + 1) (by omega) (by omega) (by omega)
  rw [show i + ((r + 1 : Nat) : Int) = i + 1 + (r : Nat) by omega]
  exact this
theorem k2t {ρ : Type} (fail : ρ) (fu : Nat) (s : LK ρ → EL → Int → Int → Int → ρ) (f : Nat → List UInt8 → Except Int (Lv × List UInt8 × Nat)) (d : Int) (k j : Int)
  (hf : ∀ p bs a r q, p ≤ 64 → f p bs = .ok (a, r, q) → r.length ≤ bs.length ∧ q ≤ 64) (N : Nat) (hs : ∀ bs p, bs.length ≤ N → p ≤ 64 → LvOut (fun K => s K (encB bs) 0 (z0d .add .i64 d 1) (p : Nat)) (f p bs)) :
  ∀ (r n : Nat) (bs : List UInt8) (p : Nat) (z : EL) (i : Nat), bs.length ≤ N → p ≤ 64 → z.length ≤ i → i + r ≤ 1000 → r < n →
   match many f r p bs with
   | .ok (l, bs', q) => ∀ K : LK ρ, p110_2L fail fu s K d k j ((i + r : Nat) : Int) n (encB bs) 0 (p : Nat) z (i : Nat) = K k j (z ++ Lv.rows l) (encB bs') 0 (q : Nat)
   | .error e => e ≠ 0 ∧ ∃ c B q, ∀ K : LK ρ, p110_2L fail fu s K d k j ((i + r : Nat) : Int) n (encB bs) 0 (p : Nat) z (i : Nat) = K k j c B e q
 | 0, n + 1, bs, p, z, i, hb, hp, hz, hi, hn => by
  simp only [many]
  intro K
  rw [p110_2L, p110_2, lssF (by omega), cond_false]
  simp [Lv.rows]
 | r + 1, n + 1, bs, p, z, i, hb, hp, hz, hi, hn => by
  have h1 := hs bs p hb hp
  simp only [many]
  have step : ∀ K : LK ρ, p110_2L fail fu s K d k j ((i + (r + 1) : Nat) : Int) (n + 1) (encB bs) 0 (p : Nat) z (i : Nat) = s (fun a b c B e q =>
    p110_2L fail fu s K d k j ((i + 1 + r : Nat) : Int) n B e q (z ++ [[.v (.int .i64 a), .v (.int .i64 b), .sl 3 c none]]) ((i + 1 : Nat) : Int)) (encB bs) 0 (z0d .add .i64 d 1) (p : Nat) := fun K => by
   rw [p110_2L, p110_2, lssT (by omega), cond_true, eqlT rfl, cond_true]
   congr 1
   funext a b c B e q
   rw [gd_y (by simp), gd_y (by simp; omega), p110_1, addZ (by omega) (by omega), show ((i : Nat) : Int) + 1 = ((i + 1 : Nat) : Int) by omega, show i + (r + 1) = i + 1 + r by omega]
   rfl
  cases hfv : f p bs with
  | error e =>
   rw [hfv] at h1
   obtain ⟨he, a, b, c, B, q, h1⟩ := h1
   dsimp only at h1
   refine ⟨he, z ++ [[.v (.int .i64 a), .v (.int .i64 b), .sl 3 c none]], B, q, fun K => ?_⟩
   try dsimp only
   rw [step, h1]
   have := w4n fail fu s K d k j B e q (z ++ [[.v (.int .i64 a), .v (.int .i64 b), .sl 3 c none]]) he r n ((i + 1 : Nat) : Int) (by omega) (by omega) (by omega)
   rw [show ((i + 1 + r : Nat) : Int) = ((i + 1 : Nat) : Int) + (r : Nat) by omega]
   exact this
  | ok x =>
   obtain ⟨a, bs1, p1⟩ := x
   rw [hfv] at h1
   simp only [LvOut] at h1
   have h2 := hf _ _ _ _ _ hp hfv
   have ih := k2t fail fu s f d k j hf N hs r n bs1 p1 (z ++ [a.row]) (i + 1) (by omega) h2.2 (by simp; omega) (by omega) (by omega)
   have hrow : ∀ K : LK ρ, p110_2L fail fu s K d k j ((i + (r + 1) : Nat) : Int) (n + 1) (encB bs) 0 (p : Nat) z (i : Nat) = p110_2L fail fu s K d k j ((i + 1 + r : Nat) : Int) n (encB bs1) 0 (p1 : Nat) (z ++ [a.row]) ((i + 1 : Nat) : Int) := fun K => by
    rw [step, h1, Lv.row_eq]
   try dsimp only
   cases hm : many f r p1 bs1 with
   | error e =>
    rw [hm] at ih
    obtain ⟨he, c, B, q, h3⟩ := ih
    exact ⟨he, c, B, q, fun K => by rw [hrow, h3]⟩
   | ok x =>
    obtain ⟨l2, bs2, p2⟩ := x
    rw [hm] at ih
    intro K
    rw [hrow, ih, List.append_assoc]; rfl
theorem k1w {ρ : Type} (fail : ρ) : ∀ (left fu : Nat), left + 12 ≤ fu → left ≤ 32 → ∀ (bs : List UInt8) (p : Nat), bs.length ≤ 1099511627776 → p ≤ 64 →
  LvOut (fun K => p110 fail fu K (encB bs) 0 ((33 - left : Nat) : Int) (p : Nat)) (rdLv left p bs) := by
 intro left
 induction left with
 | zero =>
  intro fu hf hl bs p hb hp
  obtain ⟨m, rfl⟩ : ∃ m, fu = m + 1 := ⟨fu - 1, by omega⟩
  have hpart := fun K => w0z (ρ := ρ) fail m K (encB bs) p 64 33 32 (by omega)
  simp only [rdLv]
  by_cases h1 : 64 < p + 1
  ·rw [if_pos h1]
   refine ⟨by omega, 0, 0, nilE, encB bs, ((p + 1 : Nat) : Int), fun K => ?_⟩
   try dsimp only
   rw [p110, p110_b]
   erw [hpart]
   rw [if_pos h1, neqT (by omega), cond_true]
  ·rw [if_neg h1]
   refine ⟨by omega, 0, 0, nilE, encB bs, ((p + 1 : Nat) : Int), fun K => ?_⟩
   try dsimp only
   rw [p110, p110_b]
   erw [hpart]
   rw [if_neg h1, if_pos (by omega), neqT (by omega), cond_true]
 | succ left ih =>
  intro fu hf hl bs p hb hp
  obtain ⟨m, rfl⟩ : ∃ m, fu = m + 1 := ⟨fu - 1, by omega⟩
  have hpart := fun K => w0z (ρ := ρ) fail m K (encB bs) p 64 (33 - (left + 1)) 32 (by omega)
  have hkind := w1f (ρ := ρ) fail m (by omega) bs hb 0 4 (by omega) (by omega)
  simp only [rdLv]
  by_cases h1 : 64 < p + 1
  ·rw [if_pos h1]
   refine ⟨by omega, 0, 0, nilE, encB bs, ((p + 1 : Nat) : Int), fun K => ?_⟩
   try dsimp only
   rw [p110, p110_b]
   erw [hpart]
   rw [if_pos h1, neqT (by omega), cond_true]
  ·rw [if_neg h1]
   generalize hs : p110 fail m = s
   generalize hd0 : ((33 - (left + 1) : Nat) : Int) = d at hpart
   have hd : z0d .add .i64 d 1 = ((33 - left : Nat) : Int) := by subst hd0; rw [addZ (by omega) (by omega)]; omega
   generalize hq0 : ((p + 1 : Nat) : Int) = q at hpart
   have hb1 : ∀ K : LK ρ, p110 fail (m + 1) K (encB bs) 0 d (p : Nat) = p93 fail m (fun y4 y5 y6 => bif (z0a .eql y4 1) then (p110_3 fail m s K d q y4 y5 y6 0 1) else (bif (z0a .eql y4 2) then (p110_7 fail m s K d q y4 y5 y6 (z0a .eql y4 2)) else (p110_7 fail m s K d q y4 y5 y6 (z0a .eql y4 3)))) (encB bs) 0 ((0 : Nat) : Int) ((4 : Nat) : Int) := fun K => by
    rw [p110, p110_b, hs]
    erw [hpart]
    rw [if_neg h1, if_neg (by omega), neqF rfl, cond_false]
    rfl
   have end0 : ∀ (K : LK ρ) (k j : Int) (B : EL) (e : Int), e ≠ 0 → p110_2L fail m s K d k j 0 m B e q nilE 0 = K k j nilE B e q := fun K k j B e he => by
    have := w4n fail m s K d k j B e q nilE he 0 m 0 (by omega) (by omega) (by omega)
    exact this
   have end0' : ∀ (K : LK ρ) (k j : Int) (B : EL), p110_2L fail m s K d k j 0 m B 0 q nilE 0 = K k j nilE B 0 q := fun K k j B => by
    obtain ⟨m', hm'⟩ : ∃ m', m = m' + 1 := ⟨m - 1, by omega⟩
    have : ∀ m'', m'' = m' + 1 → p110_2L fail m s K d k j 0 m'' B 0 q nilE 0 = K k j nilE B 0 q := fun m'' h => by
     subst h; rw [p110_2L, p110_2, lssF (by omega), cond_false]
    exact this m hm'
   cases hk : z3m 0 4 bs with
   | error e =>
    rw [hk] at hkind
    obtain ⟨he, B, hB⟩ := hkind
    dsimp only at hB
    refine ⟨he, 0, 0, nilE, B, q, fun K => ?_⟩
    try dsimp only
    rw [hb1, hB]
    rw [eqlF (by omega), cond_false, eqlF (by omega), cond_false, eqlF (by omega), p110_7, cond_false, eqlF (by omega), cond_false, p110_5, p110_4, p110_3]
    exact end0 K 0 0 B e he
   | ok x =>
    obtain ⟨k, bs1⟩ := x
    have hk1 := z2n hk
    rw [hk] at hkind
    simp only [KOut] at hkind
    have hb2 : ∀ K : LK ρ, p110 fail (m + 1) K (encB bs) 0 d (p : Nat) = bif (z0a .eql (k : Nat) 1) then (p110_3 fail m s K d q (k : Nat) (encB bs1) 0 0 1) else (bif (z0a .eql (k : Nat) 2) then (p110_7 fail m s K d q (k : Nat) (encB bs1) 0 (z0a .eql (k : Nat) 2)) else (p110_7 fail m s K d q (k : Nat) (encB bs1) 0 (z0a .eql (k : Nat) 3))) := fun K => by
     rw [hb1, hkind]
    have loop : ∀ r, r = lvN k → (∀ K : LK ρ, p110 fail (m + 1) K (encB bs) 0 d (p : Nat) = p110_2L fail m s K d (k : Nat) 0 ((r : Nat) : Int) m (encB bs1) 0 q nilE 0) →
      LvOut (fun K => p110 fail (m + 1) K (encB bs) 0 d (p : Nat)) (match many (rdLv left) (lvN k) (p + 1) bs1 with
       | .error e => .error e
       | .ok (l, bs, p) => .ok (.mk (k : Nat) 0 l, bs, p)) := fun r hr hloop => by
     have hN : lvN k ≤ 2 := by unfold lvN; split <;> (try split) <;> (try split) <;> omega
     have := k2t fail m s (rdLv left) d (k : Nat) 0 (fun p bs a r q => w0v left p bs a r q) 1099511627776 (fun bs p hb hp => by rw [hd, ← hs]; exact ih m (by omega) (by omega) bs p hb hp) (lvN k) m bs1 (p + 1) nilE 0 (by omega) (by omega) (by simp) (by omega) (by omega)
     rw [Nat.zero_add, hq0, ← hr] at this
     rw [← hr]
     cases hm : many (rdLv left) r (p + 1) bs1 with
     | error e =>
      rw [hm] at this
      obtain ⟨he, c, B, q', h⟩ := this
      exact ⟨he, _, _, c, B, q', fun K => by dsimp only; rw [hloop]; exact h K⟩
     | ok x =>
      obtain ⟨l2, bs2, p2⟩ := x
      rw [hm] at this
      intro K
      try dsimp only
      rw [hloop]; exact this K
    dsimp only
    by_cases k1 : k = 1
    ·subst k1
     rw [if_neg (by omega)]
     exact loop 1 rfl (fun K => by rw [hb2, eqlT (by omega), cond_true, p110_3]; rfl)
    by_cases k2 : k = 2
    ·subst k2
     rw [if_neg (by omega)]
     exact loop 2 rfl (fun K => by rw [hb2, eqlF (by omega), cond_false, eqlT (by omega), cond_true, p110_7, cond_true, p110_4, p110_3]; rfl)
    by_cases k3 : k = 3
    ·subst k3
     rw [if_neg (by omega)]
     exact loop 2 rfl (fun K => by rw [hb2, eqlF (by omega), cond_false, eqlF (by omega), cond_false, eqlT (by omega), p110_7, cond_true, p110_4, p110_3]; rfl)
    by_cases k4 : k = 4
    ·subst k4
     rw [if_pos rfl]
     have hb3 : ∀ K : LK ρ, p110 fail (m + 1) K (encB bs) 0 d (p : Nat) = p91 fail m (fun y34 y35 y36 => bif (z0a .geq y34 4) then (p94 fail m (fun y39 y40 => p110_6 fail m s K d q 4 y34 y39 y40) y35 y36 7) else (p110_6 fail m s K d q 4 y34 y35 y36)) (encB bs1) 0 := fun K => by
      rw [hb2, eqlF (by omega), cond_false, eqlF (by omega), cond_false, eqlF (by omega), p110_7, cond_false, eqlT (by omega), cond_true]
      rfl
     have hnum := z7l (ρ := ρ) fail m (by omega) bs1 (by omega)
     cases hn : rdNum bs1 with
     | error e =>
      rw [hn] at hnum
      obtain ⟨he, B, hB⟩ := hnum
      dsimp only at hB
      refine ⟨he, 4, 0, nilE, B, q, fun K => ?_⟩
      try dsimp only
      rw [hb3, hB, geqF (by omega), cond_false, p110_6, p110_5, p110_4, p110_3]
      exact end0 K _ _ B e he
     | ok x =>
      obtain ⟨n, bs2⟩ := x
      rw [hn] at hnum
      simp only [KOut] at hnum
      try dsimp only
      by_cases h4 : 4 ≤ n
      ·rw [if_pos h4]
       refine ⟨by omega, 4, ((n : Nat) : Int), nilE, encB bs2, q, fun K => ?_⟩
       try dsimp only
       rw [hb3, hnum, geqT (by omega), cond_true, z2o, p110_6, p110_5, p110_4, p110_3]
       exact end0 K _ _ _ 7 (by omega)
      ·rw [if_neg h4]
       intro K
       try dsimp only
       rw [hb3, hnum, geqF (by omega), cond_false, p110_6, p110_5, p110_4, p110_3, end0' K, hq0]
       rfl
    ·have k0 : k = 0 := by omega
     subst k0
     rw [if_neg (by omega)]
     exact loop 0 rfl (fun K => by rw [hb2, eqlF (by omega), cond_false, eqlF (by omega), cond_false, eqlF (by omega), p110_7, cond_false, eqlF (by omega), cond_false, p110_5, p110_4, p110_3]; rfl)
def z2r (bs : List UInt8) : Except Int (Lv × List UInt8) := match rdLv 32 0 bs with
 | .ok (l, r, _) => .ok (l, r)
 | .error e => .error e
def LvO2 {ρ : Type} (p : (Int → Int → EL → EL → Int → ρ) → ρ) : Except Int (Lv × List UInt8) → Prop
 | .ok (l, bs) => ∀ K : Int → Int → EL → EL → Int → ρ, p K = K l.k l.n (Lv.rows l.args) (encB bs) 0
 | .error e => e ≠ 0 ∧ ∃ a b c B, ∀ K : Int → Int → EL → EL → Int → ρ, p K = K a b c B e
theorem k2j {ρ : Type} (fail : ρ) (fu : Nat) (hf : 50 ≤ fu) (bs : List UInt8) (hb : bs.length ≤ 1099511627776) : LvO2 (fun K => p67 fail fu K (encB bs) 0) (z2r bs) := by
 have := k1w fail 32 fu (by omega) (by omega) bs 0 hb (by omega)
 unfold z2r
 cases h : rdLv 32 0 bs with
 | error e =>
  rw [h] at this
  obtain ⟨he, a, b, c, B, q, h1⟩ := this
  dsimp only at h1
  refine ⟨he, a, b, c, B, fun K => ?_⟩
  try dsimp only
  rw [p67]; exact h1 _
 | ok x =>
  obtain ⟨l, r, q⟩ := x
  rw [h] at this
  intro K
  try dsimp only
  rw [p67]; exact this _
def p109_1 {ρ : Type} (fail : ρ) (fu : Nat) (s_p109 : (Int → Int → ByteArray → EL → EL → EL → Int → Int → ρ) → EL → Int → Int → Int → ρ) (K0 : Int → Int → ByteArray → EL → EL → EL → Int → Int → ρ) (rec2 : EL → Int → Int → EL → Int → ρ) (x2 y4 j9 : Int) (j10 : ByteArray) (j11 : Int) (z15 z22 : EL) (z23 z24 : Int) (z25 : EL) (z26 : Int) : ρ :=
 bif (z0a .lss z26 j11) then (bif (z0a .neq z23 0) then (K0 y4 j9 j10 z15 z25 z22 z23 z24) else (s_p109 (fun y27 y28 y29 y30 y31 y32 y33 y34 => gd (1 ≤ [[(CV.v (.int .i64 y27)),(CV.v (.int .i64 y28)),(CV.v (.string y29)),(CV.sl 3 y30 none),(CV.sl 5 y31 none)]].length) fail (gd ((z25.length + (List.take 1 [[(CV.v (.int .i64 y27)),(CV.v (.int .i64 y28)),(CV.v (.string y29)),(CV.sl 3 y30 none),(CV.sl 5 y31 none)]]).length) * 80 ≤ 35184372088832) fail (rec2 y32 y33 y34 (z25 ++ (List.take 1 [[(CV.v (.int .i64 y27)),(CV.v (.int .i64 y28)),(CV.v (.string y29)),(CV.sl 3 y30 none),(CV.sl 5 y31 none)]])) (z0d .add .i64 z26 1)))) z22 z23 (z0d .add .i64 x2 1) z24)) else (K0 y4 j9 j10 z15 z25 z22 z23 z24)
def p109_1L {ρ : Type} (fail : ρ) (fu : Nat) (s_p109 : (Int → Int → ByteArray → EL → EL → EL → Int → Int → ρ) → EL → Int → Int → Int → ρ) (K0 : Int → Int → ByteArray → EL → EL → EL → Int → Int → ρ) (x2 y4 j9 : Int) (j10 : ByteArray) (j11 : Int) (z15 : EL) : Nat → EL → Int → Int → EL → Int → ρ
 | 0,_,_,_,_,_ => fail
 | n + 1,z22,z23,z24,z25,z26 => p109_1 fail fu s_p109 K0 (p109_1L fail fu s_p109 K0 x2 y4 j9 j10 j11 z15 n) x2 y4 j9 j10 j11 z15 z22 z23 z24 z25 z26
def p109_2 {ρ : Type} (fail : ρ) (fu : Nat) (s_p109 : (Int → Int → ByteArray → EL → EL → EL → Int → Int → ρ) → EL → Int → Int → Int → ρ) (K0 : Int → Int → ByteArray → EL → EL → EL → Int → Int → ρ) (rec1 : EL → Int → EL → Int → ρ) (x2 y3 y4 j9 : Int) (j10 : ByteArray) (j11 j12 : Int) (z13 : EL) (z14 : Int) (z15 : EL) (z16 : Int) : ρ :=
 bif (z0a .lss z16 j12) then (bif (z0a .neq z14 0) then (K0 y4 j9 j10 z15 nilE z13 z14 y3) else (p67 fail fu (fun y17 y18 y19 y20 y21 => gd (1 ≤ [[(CV.v (.int .i64 y17)),(CV.v (.int .i64 y18)),(CV.sl 3 y19 none)]].length) fail (gd ((z15.length + (List.take 1 [[(CV.v (.int .i64 y17)),(CV.v (.int .i64 y18)),(CV.sl 3 y19 none)]]).length) * 40 ≤ 35184372088832) fail (rec1 y20 y21 (z15 ++ (List.take 1 [[(CV.v (.int .i64 y17)),(CV.v (.int .i64 y18)),(CV.sl 3 y19 none)]])) (z0d .add .i64 z16 1)))) z13 z14)) else (p109_1L fail fu s_p109 K0 x2 y4 j9 j10 j11 z15 fu z13 z14 y3 nilE 0)
def p109_2L {ρ : Type} (fail : ρ) (fu : Nat) (s_p109 : (Int → Int → ByteArray → EL → EL → EL → Int → Int → ρ) → EL → Int → Int → Int → ρ) (K0 : Int → Int → ByteArray → EL → EL → EL → Int → Int → ρ) (x2 y3 y4 j9 : Int) (j10 : ByteArray) (j11 j12 : Int) : Nat → EL → Int → EL → Int → ρ
 | 0,_,_,_,_ => fail
 | n + 1,z13,z14,z15,z16 => p109_2 fail fu s_p109 K0 (p109_2L fail fu s_p109 K0 x2 y3 y4 j9 j10 j11 j12 n) x2 y3 y4 j9 j10 j11 j12 z13 z14 z15 z16
def p109_3 {ρ : Type} (fail : ρ) (fu : Nat) (s_p109 : (Int → Int → ByteArray → EL → EL → EL → Int → Int → ρ) → EL → Int → Int → Int → ρ) (K0 : Int → Int → ByteArray → EL → EL → EL → Int → Int → ρ) (x2 y3 y4 : Int) (j7 : EL) (j8 j9 : Int) (j10 : ByteArray) (j11 j12 : Int) : ρ :=
 p109_2L fail fu s_p109 K0 x2 y3 y4 j9 j10 j11 j12 fu j7 j8 nilE 0
def p109_4 {ρ : Type} (fail : ρ) (fu : Nat) (s_p109 : (Int → Int → ByteArray → EL → EL → EL → Int → Int → ρ) → EL → Int → Int → Int → ρ) (K0 : Int → Int → ByteArray → EL → EL → EL → Int → Int → ρ) (x2 y3 y4 : Int) (j38 : EL) (j39 : Int) (j40 : ByteArray) (j41 j42 : Int) : ρ :=
 p109_3 fail fu s_p109 K0 x2 y3 y4 j38 j39 0 j40 j41 j42
def p109_5 {ρ : Type} (fail : ρ) (fu : Nat) (s_p109 : (Int → Int → ByteArray → EL → EL → EL → Int → Int → ρ) → EL → Int → Int → Int → ρ) (K0 : Int → Int → ByteArray → EL → EL → EL → Int → Int → ρ) (x2 y3 y4 : Int) (j43 : EL) (j44 : Int) (j45 : ByteArray) (j46 j47 : Int) : ρ :=
 p109_4 fail fu s_p109 K0 x2 y3 y4 j43 j44 j45 j46 j47
def p109_6 {ρ : Type} (fail : ρ) (fu : Nat) (s_p109 : (Int → Int → ByteArray → EL → EL → EL → Int → Int → ρ) → EL → Int → Int → Int → ρ) (K0 : Int → Int → ByteArray → EL → EL → EL → Int → Int → ρ) (x2 y3 y4 : Int) (s51 : ByteArray) (y52 : Int) (j55 : EL) (j56 : Int) : ρ :=
 p109_5 fail fu s_p109 K0 x2 y3 y4 j55 j56 s51 0 y52
def p109_7 {ρ : Type} (fail : ρ) (fu : Nat) (s_p109 : (Int → Int → ByteArray → EL → EL → EL → Int → Int → ρ) → EL → Int → Int → Int → ρ) (K0 : Int → Int → ByteArray → EL → EL → EL → Int → Int → ρ) (x2 y3 y4 : Int) (y5 : EL) (y6 j59 : Int) : ρ :=
 p109_5 fail fu s_p109 K0 x2 y3 y4 y5 y6 ⟨#[]⟩ j59 0
def p109_b {ρ : Type} (fail : ρ) (fu : Nat) (s_p109 : (Int → Int → ByteArray → EL → EL → EL → Int → Int → ρ) → EL → Int → Int → Int → ρ) (K0 : Int → Int → ByteArray → EL → EL → EL → Int → Int → ρ) (x0 : EL) (x1 x2 x3 : Int) : ρ :=
 p137 fail fu (fun y1 y2 y3 => bif (z0a .neq y2 0) then (K0 0 0 ⟨#[]⟩ nilE nilE y1 y2 y3) else (p93 fail fu (fun y4 y5 y6 => bif (z0a .eql y4 0) then (p91 fail fu (fun y35 y36 y37 => p109_3 fail fu s_p109 K0 x2 y3 y4 y36 y37 y35 ⟨#[]⟩ 0 0) y5 y6) else (bif (z0a .eql y4 1) then (p109_4 fail fu s_p109 K0 x2 y3 y4 y5 y6 ⟨#[]⟩ 0 1) else (bif (z0a .eql y4 2) then (p95 fail fu (fun y48 y49 y50 => tobP fail y48 (fun s51 => p91 fail fu (fun y52 y53 y54 => bif (z0a .gtr y52 4) then (p94 fail fu (fun y57 y58 => p109_6 fail fu s_p109 K0 x2 y3 y4 s51 y52 y57 y58) y53 y54 7) else (p109_6 fail fu s_p109 K0 x2 y3 y4 s51 y52 y53 y54)) y49 y50)) y5 y6 24) else (bif (z0a .eql y4 6) then (p109_7 fail fu s_p109 K0 x2 y3 y4 y5 y6 3) else (p109_7 fail fu s_p109 K0 x2 y3 y4 y5 y6 2))))) y1 y2 0 6)) x0 x1 x3 2000 x2 100
def p109 {ρ : Type} (fail : ρ) : Nat → (Int → Int → ByteArray → EL → EL → EL → Int → Int → ρ) → EL → Int → Int → Int → ρ
 | 0,_,_,_,_,_ => fail
 | n + 1,K0,x0,x1,x2,x3 => p109_b fail n (p109 fail n) K0 x0 x1 x2 x3
def p65 {ρ : Type} (fail : ρ) (fu : Nat) (K0 : Int → Int → ByteArray → EL → EL → EL → Int → ρ) (x0 : EL) (x1 : Int) : ρ :=
 p109 fail fu (fun y1 y2 y3 y4 y5 y6 y7 y8 => K0 y1 y2 y3 y4 y5 y6 y7) x0 x1 1 0
def D_p109 (fu : Nat) : Prop := ∀ {K0 : Int → Int → ByteArray → EL → EL → EL → Int → Int → Prop} (L : EL → Nat) (_ : L = List.length) {x0 : EL} {x1 x2 x3 : Int} (_ : p109 False fu K0 x0 x1 x2 x3),Den Try.prog G0 109 [.ptr [.c (.sl 1 x0 none),.c (.v (.int .i64 x1))],.c (.v (.int .i64 x2)),.ptr [.c (.v (.int .i64 x3))]] (fun r bs => (∃ (y0 y1 : Int) (y2 : ByteArray) (y3 y4 y5 : EL) (y6 y7 : Int) (o1 : OV),(r = .agg [.c (.v (.int .i64 y0)),.c (.v (.int .i64 y1)),.c (.v (.string y2)),.c (.sl 3 y3 none),.c (.sl 5 y4 none)] ∧ bs = [.ptr [.c (.sl 1 y5 none),.c (.v (.int .i64 y6))],o1,.ptr [.c (.v (.int .i64 y7))]]) ∧ K0 y0 y1 y2 y3 y4 y5 y6 y7))
theorem b_p109 (fu : Nat) (ih_p109 : D_p109 fu) {K0 : Int → Int → ByteArray → EL → EL → EL → Int → Int → Prop} (L : EL → Nat) (hN : L = List.length) {x0 : EL} {x1 x2 x3 : Int} (h : p109_b False fu (p109 False fu) K0 x0 x1 x2 x3) : Den Try.prog G0 109 [.ptr [.c (.sl 1 x0 none),.c (.v (.int .i64 x1))],.c (.v (.int .i64 x2)),.ptr [.c (.v (.int .i64 x3))]] (fun r bs => (∃ (y0 y1 : Int) (y2 : ByteArray) (y3 y4 y5 : EL) (y6 y7 : Int) (o1 : OV),(r = .agg [.c (.v (.int .i64 y0)),.c (.v (.int .i64 y1)),.c (.v (.string y2)),.c (.sl 3 y3 none),.c (.sl 5 y4 none)] ∧ bs = [.ptr [.c (.sl 1 y5 none),.c (.v (.int .i64 y6))],o1,.ptr [.c (.v (.int .i64 y7))]]) ∧ K0 y0 y1 y2 y3 y4 y5 y6 y7)) := by
 obtain ⟨O,hO⟩ : ∃ O,O = std 2 T G0 (Den Try.prog G0) := ⟨_,rfl⟩
 have hLO : L = O.len := by rw [hN,hO]; rfl
 subst hLO
 refine den_h hO tiA mixed tabOk (fn := Try.f109) (sh := true) (by kernel_rfl) rfl rfl rfl rfl ?_
 intro Q hQ
 unfold p109_b at h
 conv => cbv
 refine z0c hO [.ref 2,.ref 1,.shut,.shut,.shut] (d_p137 fu O.len hN h) ?_
 intro os Q hos hQ
 conv => cbv
 refine ⟨(by (rw [hos]) <;> (subst hO; rfl)),?_⟩
 intro r bs hq
 rw [hQ] at hq
 clear hos hQ h
 obtain ⟨y1,y2,y3,_,_,_,⟨rfl,rfl⟩,h⟩ := hq
 conv => cbv
 refine br_h hO h (by subst hO; rfl) (fun hc1 h => ?_) (fun hc1 h => ?_)
 conv => cbv
 rw [hQ]
 exact ⟨0,0,⟨#[]⟩,nilE,nilE,y1,y2,y3,_,⟨(by subst hO; rfl),(by subst hO; rfl)⟩,h⟩
 conv => cbv
 refine z0b hO ?_
 conv => cbv
 refine z0c hO [.ref 2,.shut,.shut] (d_p93 fu O.len hN h) ?_
 intro os Q hos hQ
 conv => cbv
 refine ⟨(by (rw [hos]) <;> (subst hO; rfl)),?_⟩
 intro r bs hq
 rw [hQ] at hq
 clear hos hQ h
 obtain ⟨y4,y5,y6,_,_,⟨rfl,rfl⟩,h⟩ := hq
 conv => cbv
 refine z0h hO tiA h (by subst hO; rfl) [0,1,2,6,7,8,9] [0,1,7000,8000] [] (fun tm m => ∃ (j7 : EL) (j8 : Int) (j9 : Int) (j10 : ByteArray) (j11 : Int) (j12 : Int),((tm = frame 0 84 [(0,.p 0 0 0),(1,.c (.v (.int .i64 x2))),(2,.p 1 1 0),(6,.p 7000 2 0),(7,.p 8000 2 0),(8,.c (.v (.int .i64 j11))),(9,.c (.v (.int .i64 j12)))] ∧ m = ⟨[(0,.blk 0 [.c (.sl 1 j7 none),.c (.v (.int .i64 j8))]),(1,.blk 1 [.c (.v (.int .i64 y3))]),(7000,.blk 2 [.c (.v (.int .i64 0)),.c (.v (.int .i64 0)),.c (.v (.string ⟨#[]⟩)),.c (.sl 3 [] (some [])),.c (.sl 5 [] (some []))]),(8000,.blk 2 [.c (.v (.int .i64 y4)),.c (.v (.int .i64 j9)),.c (.v (.string j10)),.c (.sl 3 [] (some [])),.c (.sl 5 [] (some []))])],3⟩)) ∧ p109_3 False fu (p109 False fu) K0 x2 y3 y4 j7 j8 j9 j10 j11 j12) (fun hc6 h L hL_3 => ?_) (fun hc6 h L hL_3 => ?_) ?_
 conv => cbv
 refine z0c hO [.ref 2] (d_p91 fu O.len hN h) ?_
 intro os Q hos hQ
 conv => cbv
 refine ⟨(by (rw [hos]) <;> (subst hO; rfl)),?_⟩
 intro r bs hq
 rw [hQ] at hq
 clear hos hQ h
 obtain ⟨y35,y36,y37,⟨rfl,rfl⟩,h⟩ := hq
 conv => cbv
 exact hL_3 _ _ ⟨y36,y37,y35,⟨#[]⟩,0,0,⟨(by (conv => lhs; cbv) <;> (subst hO; rfl)),(by (conv => lhs; cbv) <;> (subst hO; rfl))⟩,h⟩
 conv => cbv
 refine z0h hO tiA h (by subst hO; rfl) [0,1,2,6,7,8,9] [0,1,7000,8000] [] (fun tm m => ∃ (j38 : EL) (j39 : Int) (j40 : ByteArray) (j41 : Int) (j42 : Int),((tm = frame 0 84 [(0,.p 0 0 0),(1,.c (.v (.int .i64 x2))),(2,.p 1 1 0),(6,.p 7000 2 0),(7,.p 8000 2 0),(8,.c (.v (.int .i64 j41))),(9,.c (.v (.int .i64 j42)))] ∧ m = ⟨[(0,.blk 0 [.c (.sl 1 j38 none),.c (.v (.int .i64 j39))]),(1,.blk 1 [.c (.v (.int .i64 y3))]),(7000,.blk 2 [.c (.v (.int .i64 0)),.c (.v (.int .i64 0)),.c (.v (.string ⟨#[]⟩)),.c (.sl 3 [] (some [])),.c (.sl 5 [] (some []))]),(8000,.blk 2 [.c (.v (.int .i64 y4)),.c (.v (.int .i64 0)),.c (.v (.string j40)),.c (.sl 3 [] (some [])),.c (.sl 5 [] (some []))])],3⟩)) ∧ p109_4 False fu (p109 False fu) K0 x2 y3 y4 j38 j39 j40 j41 j42) (fun hc7 h L hL_4 => ?_) (fun hc7 h L hL_4 => ?_) ?_
 conv => cbv
 exact hL_4 _ _ ⟨y5,y6,⟨#[]⟩,0,1,⟨(by (conv => lhs; cbv) <;> (subst hO; rfl)),(by (conv => lhs; cbv) <;> (subst hO; rfl))⟩,h⟩
 conv => cbv
 refine z0h hO tiA h (by subst hO; rfl) [0,1,2,6,7,8,9] [0,1,7000,8000] [] (fun tm m => ∃ (j43 : EL) (j44 : Int) (j45 : ByteArray) (j46 : Int) (j47 : Int),((tm = frame 0 84 [(0,.p 0 0 0),(1,.c (.v (.int .i64 x2))),(2,.p 1 1 0),(6,.p 7000 2 0),(7,.p 8000 2 0),(8,.c (.v (.int .i64 j46))),(9,.c (.v (.int .i64 j47)))] ∧ m = ⟨[(0,.blk 0 [.c (.sl 1 j43 none),.c (.v (.int .i64 j44))]),(1,.blk 1 [.c (.v (.int .i64 y3))]),(7000,.blk 2 [.c (.v (.int .i64 0)),.c (.v (.int .i64 0)),.c (.v (.string ⟨#[]⟩)),.c (.sl 3 [] (some [])),.c (.sl 5 [] (some []))]),(8000,.blk 2 [.c (.v (.int .i64 y4)),.c (.v (.int .i64 0)),.c (.v (.string j45)),.c (.sl 3 [] (some [])),.c (.sl 5 [] (some []))])],3⟩)) ∧ p109_5 False fu (p109 False fu) K0 x2 y3 y4 j43 j44 j45 j46 j47) (fun hc8 h L hL_5 => ?_) (fun hc8 h L hL_5 => ?_) ?_
 conv => cbv
 refine z0c hO [.ref 2,.shut] (d_p95 fu O.len hN h) ?_
 intro os Q hos hQ
 conv => cbv
 refine ⟨(by (rw [hos]) <;> (subst hO; rfl)),?_⟩
 intro r bs hq
 rw [hQ] at hq
 clear hos hQ h
 obtain ⟨y48,y49,y50,_,⟨rfl,rfl⟩,h⟩ := hq
 conv => cbv
 refine tob_h hO h (by subst hO; rfl) (fun s51 h => ?_)
 conv => cbv
 refine z0c hO [.ref 2] (d_p91 fu O.len hN h) ?_
 intro os Q hos hQ
 conv => cbv
 refine ⟨(by (rw [hos]) <;> (subst hO; rfl)),?_⟩
 intro r bs hq
 rw [hQ] at hq
 clear hos hQ h
 obtain ⟨y52,y53,y54,⟨rfl,rfl⟩,h⟩ := hq
 conv => cbv
 refine z0h hO tiA h (by subst hO; rfl) [0,1,2,6,7,8,9] [0,1,7000,8000] [] (fun tm m => ∃ (j55 : EL) (j56 : Int),((tm = frame 0 84 [(0,.p 0 0 0),(1,.c (.v (.int .i64 x2))),(2,.p 1 1 0),(6,.p 7000 2 0),(7,.p 8000 2 0),(8,.c (.v (.int .i64 0))),(9,.c (.v (.int .i64 y52)))] ∧ m = ⟨[(0,.blk 0 [.c (.sl 1 j55 none),.c (.v (.int .i64 j56))]),(1,.blk 1 [.c (.v (.int .i64 y3))]),(7000,.blk 2 [.c (.v (.int .i64 0)),.c (.v (.int .i64 0)),.c (.v (.string ⟨#[]⟩)),.c (.sl 3 [] (some [])),.c (.sl 5 [] (some []))]),(8000,.blk 2 [.c (.v (.int .i64 y4)),.c (.v (.int .i64 0)),.c (.v (.string s51)),.c (.sl 3 [] (some [])),.c (.sl 5 [] (some []))])],3⟩)) ∧ p109_6 False fu (p109 False fu) K0 x2 y3 y4 s51 y52 j55 j56) (fun hc9 h L hL_6 => ?_) (fun hc9 h L hL_6 => ?_) ?_
 conv => cbv
 refine z0c hO [.ref 2,.shut] (d_p94 fu O.len hN h) ?_
 intro os Q hos hQ
 conv => cbv
 refine ⟨(by (rw [hos]) <;> (subst hO; rfl)),?_⟩
 intro r bs hq
 rw [hQ] at hq
 clear hos hQ h
 obtain ⟨y57,y58,_,⟨rfl,rfl⟩,h⟩ := hq
 conv => cbv
 exact hL_6 _ _ ⟨y57,y58,⟨(by (conv => lhs; cbv) <;> (subst hO; rfl)),(by (conv => lhs; cbv) <;> (subst hO; rfl))⟩,h⟩
 conv => cbv
 exact hL_6 _ _ ⟨y53,y54,⟨(by (conv => lhs; cbv) <;> (subst hO; rfl)),(by (conv => lhs; cbv) <;> (subst hO; rfl))⟩,h⟩
 rintro tm m ⟨j55,j56,hs,h⟩
 unfold p109_6 at h
 obtain ⟨rfl,rfl⟩ := hs
 conv => cbv
 exact hL_5 _ _ ⟨j55,j56,s51,0,y52,⟨(by (conv => lhs; cbv) <;> (subst hO; rfl)),(by (conv => lhs; cbv) <;> (subst hO; rfl))⟩,h⟩
 conv => cbv
 refine z0h hO tiA h (by subst hO; rfl) [0,1,2,6,7,8,9] [0,1,7000,8000] [] (fun tm m => ∃ (j59 : Int),((tm = frame 0 84 [(0,.p 0 0 0),(1,.c (.v (.int .i64 x2))),(2,.p 1 1 0),(6,.p 7000 2 0),(7,.p 8000 2 0),(8,.c (.v (.int .i64 j59))),(9,.c (.v (.int .i64 0)))] ∧ m = ⟨[(0,.blk 0 [.c (.sl 1 y5 none),.c (.v (.int .i64 y6))]),(1,.blk 1 [.c (.v (.int .i64 y3))]),(7000,.blk 2 [.c (.v (.int .i64 0)),.c (.v (.int .i64 0)),.c (.v (.string ⟨#[]⟩)),.c (.sl 3 [] (some [])),.c (.sl 5 [] (some []))]),(8000,.blk 2 [.c (.v (.int .i64 y4)),.c (.v (.int .i64 0)),.c (.v (.string ⟨#[]⟩)),.c (.sl 3 [] (some [])),.c (.sl 5 [] (some []))])],3⟩)) ∧ p109_7 False fu (p109 False fu) K0 x2 y3 y4 y5 y6 j59) (fun hc10 h L hL_7 => ?_) (fun hc10 h L hL_7 => ?_) ?_
 conv => cbv
 exact hL_7 _ _ ⟨3,⟨(by (conv => lhs; cbv) <;> (subst hO; rfl)),(by (conv => lhs; cbv) <;> (subst hO; rfl))⟩,h⟩
 conv => cbv
 exact hL_7 _ _ ⟨2,⟨(by (conv => lhs; cbv) <;> (subst hO; rfl)),(by (conv => lhs; cbv) <;> (subst hO; rfl))⟩,h⟩
 rintro tm m ⟨j59,hs,h⟩
 unfold p109_7 at h
 obtain ⟨rfl,rfl⟩ := hs
 conv => cbv
 exact hL_5 _ _ ⟨y5,y6,⟨#[]⟩,j59,0,⟨(by (conv => lhs; cbv) <;> (subst hO; rfl)),(by (conv => lhs; cbv) <;> (subst hO; rfl))⟩,h⟩
 rintro tm m ⟨j43,j44,j45,j46,j47,hs,h⟩
 unfold p109_5 at h
 obtain ⟨rfl,rfl⟩ := hs
 conv => cbv
 exact hL_4 _ _ ⟨j43,j44,j45,j46,j47,⟨(by (conv => lhs; cbv) <;> (subst hO; rfl)),(by (conv => lhs; cbv) <;> (subst hO; rfl))⟩,h⟩
 rintro tm m ⟨j38,j39,j40,j41,j42,hs,h⟩
 unfold p109_4 at h
 obtain ⟨rfl,rfl⟩ := hs
 conv => cbv
 exact hL_3 _ _ ⟨j38,j39,0,j40,j41,j42,⟨(by (conv => lhs; cbv) <;> (subst hO; rfl)),(by (conv => lhs; cbv) <;> (subst hO; rfl))⟩,h⟩
 rintro tm m ⟨j7,j8,j9,j10,j11,j12,hs,h⟩
 unfold p109_3 at h
 obtain ⟨rfl,rfl⟩ := hs
 conv => cbv
 refine z0s hO tiA [0,1,2,6,7,8,46,47] [0,1,7000,8000,61000] [] (fun (n : Nat) tm m => ∃ (z13 : EL) (z14 : Int) (z15 : EL) (z16 : Int),((z15 = [] ∧ tm = frame 0 84 [(0,.p 0 0 0),(1,.c (.v (.int .i64 x2))),(2,.p 1 1 0),(6,.p 7000 2 0),(7,.p 8000 2 0),(8,.c (.v (.int .i64 j11))),(46,.c (.v (.int .i64 j12))),(47,.c (.v (.int .i64 z16)))] ∧ m = ⟨[(0,.blk 0 [.c (.sl 1 z13 none),.c (.v (.int .i64 z14))]),(1,.blk 1 [.c (.v (.int .i64 y3))]),(7000,.blk 2 [.c (.v (.int .i64 0)),.c (.v (.int .i64 0)),.c (.v (.string ⟨#[]⟩)),.c (.sl 3 [] (some [])),.c (.sl 5 [] (some []))]),(8000,.blk 2 [.c (.v (.int .i64 y4)),.c (.v (.int .i64 j9)),.c (.v (.string j10)),.c (.sl 3 [] (some [])),.c (.sl 5 [] (some []))])],3⟩) ∨ (tm = frame 0 84 [(0,.p 0 0 0),(1,.c (.v (.int .i64 x2))),(2,.p 1 1 0),(6,.p 7000 2 0),(7,.p 8000 2 0),(8,.c (.v (.int .i64 j11))),(46,.c (.v (.int .i64 j12))),(47,.c (.v (.int .i64 z16)))] ∧ m = ⟨[(0,.blk 0 [.c (.sl 1 z13 none),.c (.v (.int .i64 z14))]),(1,.blk 1 [.c (.v (.int .i64 y3))]),(7000,.blk 2 [.c (.v (.int .i64 0)),.c (.v (.int .i64 0)),.c (.v (.string ⟨#[]⟩)),.c (.sl 3 [] (some [])),.c (.sl 5 [] (some []))]),(8000,.blk 2 [.c (.v (.int .i64 y4)),.c (.v (.int .i64 j9)),.c (.v (.string j10)),.t 61000 2 (O.len z15),.c (.sl 5 [] (some []))]),(61000,.arr 2 3 z15 none false)],3⟩)) ∧ p109_2L False fu (p109 False fu) K0 x2 y3 y4 j9 j10 j11 j12 n z13 z14 z15 z16) (fun n => n) fu ⟨j7,j8,nilE,0,(.inl ⟨rfl,(by (conv => lhs; cbv) <;> (subst hO; rfl)),(by (conv => lhs; cbv) <;> (subst hO; rfl))⟩),h⟩ ?_
 rintro n1 tm m L ⟨z13,z14,z15,z16,hs,h⟩ hLn1
 (cases n1 with
 | zero => rw [p109_2L] at h; exact h.elim
 | succ n1 =>
 rw [p109_2L] at h
 unfold p109_2 at h
 rcases hs with hs | hs
 obtain ⟨rfl,rfl,rfl⟩ := hs
 conv => cbv
 refine br_h hO h (by subst hO; rfl) (fun hc2 h => ?_) (fun hc2 h => ?_)
 conv => cbv
 refine z0b hO ?_
 conv => cbv
 refine br_h hO h (by subst hO; rfl) (fun hc3 h => ?_) (fun hc3 h => ?_)
 conv => cbv
 rw [hQ]
 exact ⟨y4,j9,j10,nilE,nilE,z13,z14,y3,_,⟨(by subst hO; rfl),(by subst hO; rfl)⟩,h⟩
 conv => cbv
 refine z0b hO ?_
 conv => cbv
 refine z0i hO tiA [[0],[],[],[],[]] [(0,true,false),(1,true,false),(2,true,false),(3,false,false),(4,false,false),(5,false,true),(6,true,true),(7,false,true)] (by kernel_rfl) ?_
 conv => cbv
 refine z0c hO [.ref 2] (d_p67 fu O.len hN h) ?_
 intro os Q hos hQ
 conv => cbv
 refine ⟨(by (rw [hos]) <;> (subst hO; rfl)),?_⟩
 intro r bs hq
 rw [hQ] at hq
 clear hos hQ h
 obtain ⟨y17,y18,y19,y20,y21,⟨rfl,rfl⟩,h⟩ := hq
 conv => cbv
 refine ⟨z0e hO (Nat.le_of_ble_eq_true rfl) rfl,?_⟩
 refine ⟨z0e hO (Nat.le_of_ble_eq_true rfl) rfl,?_⟩
 refine z0v hO h (fun g => (by subst hO; exact g)) (fun h => ?_)
 conv => cbv
 refine and_h h (fun g => (by subst hO; exact g)) (fun h => ?_)
 refine z3r hO (by subst hO; exact List.cons_ne_nil _ _) ?_
 conv => cbv
 refine z0b hO ?_
 conv => cbv
 exact hLn1 n1 _ _ (Nat.lt_succ_self n1) ⟨y20,y21,(nilE ++ (List.take 1 [[(CV.v (.int .i64 y17)),(CV.v (.int .i64 y18)),(CV.sl 3 y19 none)]])),z0d .add .i64 z16 1,(.inr ⟨(by (conv => lhs; cbv) <;> (subst hO; rfl)),(by (conv => lhs; cbv) <;> (subst hO; rfl))⟩),h⟩
 conv => cbv
 refine z0s hO tiA [0,1,2,6,7,63,64] [0,1,7000,8000,81000] [] (fun (n : Nat) tm m => ∃ (z22 : EL) (z23 : Int) (z24 : Int) (z25 : EL) (z26 : Int),((z25 = [] ∧ tm = frame 0 84 [(0,.p 0 0 0),(1,.c (.v (.int .i64 x2))),(2,.p 1 1 0),(6,.p 7000 2 0),(7,.p 8000 2 0),(63,.c (.v (.int .i64 j11))),(64,.c (.v (.int .i64 z26)))] ∧ m = ⟨[(0,.blk 0 [.c (.sl 1 z22 none),.c (.v (.int .i64 z23))]),(1,.blk 1 [.c (.v (.int .i64 z24))]),(7000,.blk 2 [.c (.v (.int .i64 0)),.c (.v (.int .i64 0)),.c (.v (.string ⟨#[]⟩)),.c (.sl 3 [] (some [])),.c (.sl 5 [] (some []))]),(8000,.blk 2 [.c (.v (.int .i64 y4)),.c (.v (.int .i64 j9)),.c (.v (.string j10)),.c (.sl 3 [] (some [])),.c (.sl 5 [] (some []))])],3⟩) ∨ (tm = frame 0 84 [(0,.p 0 0 0),(1,.c (.v (.int .i64 x2))),(2,.p 1 1 0),(6,.p 7000 2 0),(7,.p 8000 2 0),(63,.c (.v (.int .i64 j11))),(64,.c (.v (.int .i64 z26)))] ∧ m = ⟨[(0,.blk 0 [.c (.sl 1 z22 none),.c (.v (.int .i64 z23))]),(1,.blk 1 [.c (.v (.int .i64 z24))]),(7000,.blk 2 [.c (.v (.int .i64 0)),.c (.v (.int .i64 0)),.c (.v (.string ⟨#[]⟩)),.c (.sl 3 [] (some [])),.c (.sl 5 [] (some []))]),(8000,.blk 2 [.c (.v (.int .i64 y4)),.c (.v (.int .i64 j9)),.c (.v (.string j10)),.c (.sl 3 [] (some [])),.t 81000 2 (O.len z25)]),(81000,.arr 2 5 z25 none false)],3⟩)) ∧ p109_1L False fu (p109 False fu) K0 x2 y4 j9 j10 j11 nilE n z22 z23 z24 z25 z26) (fun n => n) fu ⟨z13,z14,y3,nilE,0,(.inl ⟨rfl,(by (conv => lhs; cbv) <;> (subst hO; rfl)),(by (conv => lhs; cbv) <;> (subst hO; rfl))⟩),h⟩ ?_
 rintro n2 tm m L ⟨z22,z23,z24,z25,z26,hs,h⟩ hLn2
 (cases n2 with
 | zero => rw [p109_1L] at h; exact h.elim
 | succ n2 =>
 rw [p109_1L] at h
 unfold p109_1 at h
 rcases hs with hs | hs
 obtain ⟨rfl,rfl,rfl⟩ := hs
 conv => cbv
 refine br_h hO h (by subst hO; rfl) (fun hc4 h => ?_) (fun hc4 h => ?_)
 conv => cbv
 refine z0b hO ?_
 conv => cbv
 refine br_h hO h (by subst hO; rfl) (fun hc5 h => ?_) (fun hc5 h => ?_)
 conv => cbv
 rw [hQ]
 exact ⟨y4,j9,j10,nilE,nilE,z22,z23,z24,_,⟨(by subst hO; rfl),(by subst hO; rfl)⟩,h⟩
 conv => cbv
 refine z0b hO ?_
 conv => cbv
 refine z0i hO tiA [[0,1],[],[],[],[]] [(0,true,false),(1,true,false),(2,true,false),(3,true,false),(4,true,false),(5,true,false),(6,false,false),(7,false,false),(8,false,true),(9,true,true),(10,false,true)] (by kernel_rfl) ?_
 conv => cbv
 refine z0c hO [.ref 2,.shut,.ref 1] (ih_p109 O.len hN h) ?_
 intro os Q hos hQ
 conv => cbv
 refine ⟨(by (rw [hos]) <;> (subst hO; rfl)),?_⟩
 intro r bs hq
 rw [hQ] at hq
 clear hos hQ h
 obtain ⟨y27,y28,y29,y30,y31,y32,y33,y34,_,⟨rfl,rfl⟩,h⟩ := hq
 conv => cbv
 refine ⟨z0e hO (Nat.le_of_ble_eq_true rfl) rfl,?_⟩
 refine ⟨z0e hO (Nat.le_of_ble_eq_true rfl) rfl,?_⟩
 refine z0v hO h (fun g => (by subst hO; exact g)) (fun h => ?_)
 conv => cbv
 refine and_h h (fun g => (by subst hO; exact g)) (fun h => ?_)
 refine z3r hO (by subst hO; exact List.cons_ne_nil _ _) ?_
 conv => cbv
 refine z0b hO ?_
 conv => cbv
 exact hLn2 n2 _ _ (Nat.lt_succ_self n2) ⟨y32,y33,y34,(nilE ++ (List.take 1 [[(CV.v (.int .i64 y27)),(CV.v (.int .i64 y28)),(CV.v (.string y29)),(CV.sl 3 y30 none),(CV.sl 5 y31 none)]])),z0d .add .i64 z26 1,(.inr ⟨(by (conv => lhs; cbv) <;> (subst hO; rfl)),(by (conv => lhs; cbv) <;> (subst hO; rfl))⟩),h⟩
 conv => cbv
 rw [hQ]
 exact ⟨y4,j9,j10,nilE,nilE,z22,z23,z24,_,⟨(by subst hO; rfl),(by subst hO; rfl)⟩,h⟩
 obtain ⟨rfl,rfl⟩ := hs
 conv => cbv
 refine br_h hO h (by subst hO; rfl) (fun hc4 h => ?_) (fun hc4 h => ?_)
 conv => cbv
 refine z0b hO ?_
 conv => cbv
 refine br_h hO h (by subst hO; rfl) (fun hc5 h => ?_) (fun hc5 h => ?_)
 conv => cbv
 refine z0m hO ?_
 conv => cbv
 rw [hQ]
 exact ⟨y4,j9,j10,nilE,z25,z22,z23,z24,_,⟨(by subst hO; rfl),(by subst hO; rfl)⟩,h⟩
 conv => cbv
 refine z0b hO ?_
 conv => cbv
 refine z0i hO tiA [[0,1],[],[],[],[]] [(0,true,false),(1,true,false),(2,true,false),(3,true,false),(4,true,false),(5,true,false),(6,false,false),(7,false,false),(8,false,true),(9,true,true),(10,false,true)] (by kernel_rfl) ?_
 conv => cbv
 refine z0c hO [.ref 2,.shut,.ref 1] (ih_p109 O.len hN h) ?_
 intro os Q hos hQ
 conv => cbv
 refine ⟨(by (rw [hos]) <;> (subst hO; rfl)),?_⟩
 intro r bs hq
 rw [hQ] at hq
 clear hos hQ h
 obtain ⟨y27,y28,y29,y30,y31,y32,y33,y34,_,⟨rfl,rfl⟩,h⟩ := hq
 conv => cbv
 refine ⟨z0e hO (Nat.le_of_ble_eq_true rfl) rfl,?_⟩
 refine ⟨z0e hO (Nat.le_of_ble_eq_true rfl) rfl,?_⟩
 refine z0v hO h (fun g => (by subst hO; exact g)) (fun h => ?_)
 conv => cbv
 refine ⟨(by subst hO; rfl),?_⟩
 refine and_h h (fun g => (by subst hO; exact g)) (fun h => ?_)
 refine z0b hO ?_
 conv => cbv
 exact hLn2 n2 _ _ (Nat.lt_succ_self n2) ⟨y32,y33,y34,(z25 ++ (List.take 1 [[(CV.v (.int .i64 y27)),(CV.v (.int .i64 y28)),(CV.v (.string y29)),(CV.sl 3 y30 none),(CV.sl 5 y31 none)]])),z0d .add .i64 z26 1,(.inr ⟨(by (conv => lhs; cbv) <;> (subst hO; rfl)),(by (conv => lhs; cbv) <;> (subst hO; rfl))⟩),h⟩
 conv => cbv
 refine z0m hO ?_
 conv => cbv
 rw [hQ]
 exact ⟨y4,j9,j10,nilE,z25,z22,z23,z24,_,⟨(by subst hO; rfl),(by subst hO; rfl)⟩,h⟩)
 obtain ⟨rfl,rfl⟩ := hs
 conv => cbv
 refine br_h hO h (by subst hO; rfl) (fun hc2 h => ?_) (fun hc2 h => ?_)
 conv => cbv
 refine z0b hO ?_
 conv => cbv
 refine br_h hO h (by subst hO; rfl) (fun hc3 h => ?_) (fun hc3 h => ?_)
 conv => cbv
 refine z0m hO ?_
 conv => cbv
 rw [hQ]
 exact ⟨y4,j9,j10,z15,nilE,z13,z14,y3,_,⟨(by subst hO; rfl),(by subst hO; rfl)⟩,h⟩
 conv => cbv
 refine z0b hO ?_
 conv => cbv
 refine z0i hO tiA [[0],[],[],[],[]] [(0,true,false),(1,true,false),(2,true,false),(3,false,false),(4,false,false),(5,false,true),(6,true,true),(7,false,true)] (by kernel_rfl) ?_
 conv => cbv
 refine z0c hO [.ref 2] (d_p67 fu O.len hN h) ?_
 intro os Q hos hQ
 conv => cbv
 refine ⟨(by (rw [hos]) <;> (subst hO; rfl)),?_⟩
 intro r bs hq
 rw [hQ] at hq
 clear hos hQ h
 obtain ⟨y17,y18,y19,y20,y21,⟨rfl,rfl⟩,h⟩ := hq
 conv => cbv
 refine ⟨z0e hO (Nat.le_of_ble_eq_true rfl) rfl,?_⟩
 refine ⟨z0e hO (Nat.le_of_ble_eq_true rfl) rfl,?_⟩
 refine z0v hO h (fun g => (by subst hO; exact g)) (fun h => ?_)
 conv => cbv
 refine ⟨(by subst hO; rfl),?_⟩
 refine and_h h (fun g => (by subst hO; exact g)) (fun h => ?_)
 refine z0b hO ?_
 conv => cbv
 exact hLn1 n1 _ _ (Nat.lt_succ_self n1) ⟨y20,y21,(z15 ++ (List.take 1 [[(CV.v (.int .i64 y17)),(CV.v (.int .i64 y18)),(CV.sl 3 y19 none)]])),z0d .add .i64 z16 1,(.inr ⟨(by (conv => lhs; cbv) <;> (subst hO; rfl)),(by (conv => lhs; cbv) <;> (subst hO; rfl))⟩),h⟩
 conv => cbv
 refine z0s hO tiA [0,1,2,6,7,63,64] [0,1,7000,8000,61000,81000] [] (fun (n : Nat) tm m => ∃ (z22 : EL) (z23 : Int) (z24 : Int) (z25 : EL) (z26 : Int),((z25 = [] ∧ tm = frame 0 84 [(0,.p 0 0 0),(1,.c (.v (.int .i64 x2))),(2,.p 1 1 0),(6,.p 7000 2 0),(7,.p 8000 2 0),(63,.c (.v (.int .i64 j11))),(64,.c (.v (.int .i64 z26)))] ∧ m = ⟨[(0,.blk 0 [.c (.sl 1 z22 none),.c (.v (.int .i64 z23))]),(1,.blk 1 [.c (.v (.int .i64 z24))]),(7000,.blk 2 [.c (.v (.int .i64 0)),.c (.v (.int .i64 0)),.c (.v (.string ⟨#[]⟩)),.c (.sl 3 [] (some [])),.c (.sl 5 [] (some []))]),(8000,.blk 2 [.c (.v (.int .i64 y4)),.c (.v (.int .i64 j9)),.c (.v (.string j10)),.t 61000 2 (O.len z15),.c (.sl 5 [] (some []))]),(61000,.arr 2 3 z15 none false)],3⟩) ∨ (tm = frame 0 84 [(0,.p 0 0 0),(1,.c (.v (.int .i64 x2))),(2,.p 1 1 0),(6,.p 7000 2 0),(7,.p 8000 2 0),(63,.c (.v (.int .i64 j11))),(64,.c (.v (.int .i64 z26)))] ∧ m = ⟨[(0,.blk 0 [.c (.sl 1 z22 none),.c (.v (.int .i64 z23))]),(1,.blk 1 [.c (.v (.int .i64 z24))]),(7000,.blk 2 [.c (.v (.int .i64 0)),.c (.v (.int .i64 0)),.c (.v (.string ⟨#[]⟩)),.c (.sl 3 [] (some [])),.c (.sl 5 [] (some []))]),(8000,.blk 2 [.c (.v (.int .i64 y4)),.c (.v (.int .i64 j9)),.c (.v (.string j10)),.t 61000 2 (O.len z15),.t 81000 2 (O.len z25)]),(61000,.arr 2 3 z15 none false),(81000,.arr 2 5 z25 none false)],3⟩)) ∧ p109_1L False fu (p109 False fu) K0 x2 y4 j9 j10 j11 z15 n z22 z23 z24 z25 z26) (fun n => n) fu ⟨z13,z14,y3,nilE,0,(.inl ⟨rfl,(by (conv => lhs; cbv) <;> (subst hO; rfl)),(by (conv => lhs; cbv) <;> (subst hO; rfl))⟩),h⟩ ?_
 rintro n2 tm m L ⟨z22,z23,z24,z25,z26,hs,h⟩ hLn2
 (cases n2 with
 | zero => rw [p109_1L] at h; exact h.elim
 | succ n2 =>
 rw [p109_1L] at h
 unfold p109_1 at h
 rcases hs with hs | hs
 obtain ⟨rfl,rfl,rfl⟩ := hs
 conv => cbv
 refine br_h hO h (by subst hO; rfl) (fun hc4 h => ?_) (fun hc4 h => ?_)
 conv => cbv
 refine z0b hO ?_
 conv => cbv
 refine br_h hO h (by subst hO; rfl) (fun hc5 h => ?_) (fun hc5 h => ?_)
 conv => cbv
 refine z0m hO ?_
 conv => cbv
 rw [hQ]
 exact ⟨y4,j9,j10,z15,nilE,z22,z23,z24,_,⟨(by subst hO; rfl),(by subst hO; rfl)⟩,h⟩
 conv => cbv
 refine z0b hO ?_
 conv => cbv
 refine z0i hO tiA [[0,1],[],[],[],[]] [(0,true,false),(1,true,false),(2,true,false),(3,true,false),(4,true,false),(5,true,false),(6,false,false),(7,false,false),(8,false,true),(9,true,true),(10,false,true)] (by kernel_rfl) ?_
 conv => cbv
 refine z0c hO [.ref 2,.shut,.ref 1] (ih_p109 O.len hN h) ?_
 intro os Q hos hQ
 conv => cbv
 refine ⟨(by (rw [hos]) <;> (subst hO; rfl)),?_⟩
 intro r bs hq
 rw [hQ] at hq
 clear hos hQ h
 obtain ⟨y27,y28,y29,y30,y31,y32,y33,y34,_,⟨rfl,rfl⟩,h⟩ := hq
 conv => cbv
 refine ⟨z0e hO (Nat.le_of_ble_eq_true rfl) rfl,?_⟩
 refine ⟨z0e hO (Nat.le_of_ble_eq_true rfl) rfl,?_⟩
 refine z0v hO h (fun g => (by subst hO; exact g)) (fun h => ?_)
 conv => cbv
 refine and_h h (fun g => (by subst hO; exact g)) (fun h => ?_)
 refine z3r hO (by subst hO; exact List.cons_ne_nil _ _) ?_
 conv => cbv
 refine z0b hO ?_
 conv => cbv
 exact hLn2 n2 _ _ (Nat.lt_succ_self n2) ⟨y32,y33,y34,(nilE ++ (List.take 1 [[(CV.v (.int .i64 y27)),(CV.v (.int .i64 y28)),(CV.v (.string y29)),(CV.sl 3 y30 none),(CV.sl 5 y31 none)]])),z0d .add .i64 z26 1,(.inr ⟨(by (conv => lhs; cbv) <;> (subst hO; rfl)),(by (conv => lhs; cbv) <;> (subst hO; rfl))⟩),h⟩
 conv => cbv
 refine z0m hO ?_
 conv => cbv
 rw [hQ]
 exact ⟨y4,j9,j10,z15,nilE,z22,z23,z24,_,⟨(by subst hO; rfl),(by subst hO; rfl)⟩,h⟩
 obtain ⟨rfl,rfl⟩ := hs
 conv => cbv
 refine br_h hO h (by subst hO; rfl) (fun hc4 h => ?_) (fun hc4 h => ?_)
 conv => cbv
 refine z0b hO ?_
 conv => cbv
 refine br_h hO h (by subst hO; rfl) (fun hc5 h => ?_) (fun hc5 h => ?_)
 conv => cbv
 refine z0m hO ?_
 conv => cbv
 refine z0m hO ?_
 conv => cbv
 rw [hQ]
 exact ⟨y4,j9,j10,z15,z25,z22,z23,z24,_,⟨(by subst hO; rfl),(by subst hO; rfl)⟩,h⟩
 conv => cbv
 refine z0b hO ?_
 conv => cbv
 refine z0i hO tiA [[0,1],[],[],[],[]] [(0,true,false),(1,true,false),(2,true,false),(3,true,false),(4,true,false),(5,true,false),(6,false,false),(7,false,false),(8,false,true),(9,true,true),(10,false,true)] (by kernel_rfl) ?_
 conv => cbv
 refine z0c hO [.ref 2,.shut,.ref 1] (ih_p109 O.len hN h) ?_
 intro os Q hos hQ
 conv => cbv
 refine ⟨(by (rw [hos]) <;> (subst hO; rfl)),?_⟩
 intro r bs hq
 rw [hQ] at hq
 clear hos hQ h
 obtain ⟨y27,y28,y29,y30,y31,y32,y33,y34,_,⟨rfl,rfl⟩,h⟩ := hq
 conv => cbv
 refine ⟨z0e hO (Nat.le_of_ble_eq_true rfl) rfl,?_⟩
 refine ⟨z0e hO (Nat.le_of_ble_eq_true rfl) rfl,?_⟩
 refine z0v hO h (fun g => (by subst hO; exact g)) (fun h => ?_)
 conv => cbv
 refine ⟨(by subst hO; rfl),?_⟩
 refine and_h h (fun g => (by subst hO; exact g)) (fun h => ?_)
 refine z0b hO ?_
 conv => cbv
 exact hLn2 n2 _ _ (Nat.lt_succ_self n2) ⟨y32,y33,y34,(z25 ++ (List.take 1 [[(CV.v (.int .i64 y27)),(CV.v (.int .i64 y28)),(CV.v (.string y29)),(CV.sl 3 y30 none),(CV.sl 5 y31 none)]])),z0d .add .i64 z26 1,(.inr ⟨(by (conv => lhs; cbv) <;> (subst hO; rfl)),(by (conv => lhs; cbv) <;> (subst hO; rfl))⟩),h⟩
 conv => cbv
 refine z0m hO ?_
 conv => cbv
 refine z0m hO ?_
 conv => cbv
 rw [hQ]
 exact ⟨y4,j9,j10,z15,z25,z22,z23,z24,_,⟨(by subst hO; rfl),(by subst hO; rfl)⟩,h⟩))
theorem dd_p109 (fu : Nat) : D_p109 fu := by
 induction fu with
 | zero => unfold D_p109; intros; rename_i h; rw [p109] at h; exact h.elim
 | succ n ih =>
  exact (by unfold D_p109; intro K0 L hN x0 x1 x2 x3 h; exact b_p109 n ih L hN (by rw [p109] at h; exact h))
theorem d_p109 (fu : Nat) : D_p109 fu := dd_p109 fu
theorem d_p65 (fu : Nat) {K0 : Int → Int → ByteArray → EL → EL → EL → Int → Prop} (L : EL → Nat) (hN : L = List.length) {x0 : EL} {x1 : Int} (h : p65 False fu K0 x0 x1) : Den Try.prog G0 65 [.ptr [.c (.sl 1 x0 none),.c (.v (.int .i64 x1))]] (fun r bs => (∃ (y0 y1 : Int) (y2 : ByteArray) (y3 y4 y5 : EL) (y6 : Int),(r = .agg [.c (.v (.int .i64 y0)),.c (.v (.int .i64 y1)),.c (.v (.string y2)),.c (.sl 3 y3 none),.c (.sl 5 y4 none)] ∧ bs = [.ptr [.c (.sl 1 y5 none),.c (.v (.int .i64 y6))]]) ∧ K0 y0 y1 y2 y3 y4 y5 y6)) := by
 obtain ⟨O,hO⟩ : ∃ O,O = std 1 T G0 (Den Try.prog G0) := ⟨_,rfl⟩
 have hLO : L = O.len := by rw [hN,hO]; rfl
 subst hLO
 refine den_h hO tiA mixed tabOk (fn := Try.f65) (sh := true) (by kernel_rfl) rfl rfl rfl rfl ?_
 intro Q hQ
 unfold p65 at h
 conv => cbv
 refine z0c hO [.ref 2,.shut,.ref 1] (d_p109 fu O.len hN h) ?_
 intro os Q hos hQ
 conv => cbv
 refine ⟨(by (rw [hos]) <;> (subst hO; rfl)),?_⟩
 intro r bs hq
 rw [hQ] at hq
 clear hos hQ h
 obtain ⟨y1,y2,y3,y4,y5,y6,y7,y8,_,⟨rfl,rfl⟩,h⟩ := hq
 conv => cbv
 rw [hQ]
 exact ⟨y1,y2,y3,y4,y5,y6,y7,⟨(by subst hO; rfl),(by subst hO; rfl)⟩,h⟩
end Go.Proofs.Ythncmjlcmlmnmaa
