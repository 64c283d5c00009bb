/- The Go functions are followed by those without memory. Printed by gen.py. Conditions: none. -/
import Derived.Test.YthncmjlcmlmnmaaRT5
import Derived.Test.YthncmjlcmlmnmaaRT11
import Derived.Test.YthncmjlcmlmnmaaRT9
import Derived.Test.YthncmjlcmlmnmaaRT7
import Derived.Test.YthncmjlcmlmnmaaRT10
import Derived.KernelRfl
import Derived.Test.YthncmjlcmlmnmaaRT8
namespace Go.Proofs.Ythncmjlcmlmnmaa
open Go V
set_option maxRecDepth 100000
set_option maxHeartbeats 4000000
theorem d_p16 (fu : Nat) {K0 : Bool → Prop} (L : EL → Nat) (hN : L = List.length) {x0 x1 : Int} {x2 : ByteArray} {x3 x4 : EL} (h : p16 False fu K0 x0 x1 x2 x3 x4) : Den Try.prog G0 16 [.agg [.c (.v (.int .i64 x0)),.c (.v (.int .i64 x1)),.c (.v (.string x2)),.c (.sl 3 x3 none),.c (.sl 5 x4 none)]] (fun r bs => (∃ (y0 : Bool) (o0 : OV),(r = .c (.v (.bool y0)) ∧ bs = [o0]) ∧ K0 y0)) := by
 obtain ⟨O,hO⟩ : ∃ O,O = std 0 T G0 (Den Try.prog G0) := ⟨_,rfl⟩
 have hLO : L = O.len := by rw [hN,hO]; rfl
 subst hLO
 refine den_h hO tiA mixed tabOk (fn := Try.f16) (sh := true) (by kernel_rfl) rfl rfl rfl rfl ?_
 intro Q hQ
 unfold p16 at h
 conv => cbv
 refine z0c hO [.shut,.shut] (d_p59 fu O.len hN h) ?_
 intro os Q hos hQ
 conv => cbv
 refine ⟨(by (rw [hos]) <;> (subst hO; rfl)),?_⟩
 intro r bs hq
 rw [hQ] at hq
 clear hos hQ h
 obtain ⟨y1,y2,_,_,⟨rfl,rfl⟩,h⟩ := hq
 conv => cbv
 refine z0l hO tiA [2] [] [] (fun tm m => ∃ (j3 : Bool),((tm = frame 0 24 [(2,.c (.v (.bool j3)))] ∧ m = ⟨[],1⟩)) ∧ p16_1 False fu K0 j3) (fun L hL_1 => ?_) ?_
 conv => cbv
 refine br_h hO h (by subst hO; rfl) (fun hc1 h => ?_) (fun hc1 h => ?_)
 conv => cbv
 refine br_t hO hc1 ?_
 conv => cbv
 refine z0c hO [.shut,.shut] (d_p60 fu O.len hN h) ?_
 intro os Q hos hQ
 conv => cbv
 refine ⟨(by (rw [hos]) <;> (subst hO; rfl)),?_⟩
 intro r bs hq
 rw [hQ] at hq
 clear hos hQ h
 obtain ⟨y4,_,_,⟨rfl,rfl⟩,h⟩ := hq
 conv => cbv
 refine br_t hO hc1 ?_
 conv => cbv
 refine br_t hO hc1 ?_
 conv => cbv
 refine br_h hO h (by subst hO; rfl) (fun hc2 h => ?_) (fun hc2 h => ?_)
 conv => cbv
 refine br_t hO hc2 ?_
 conv => cbv
 refine z0c hO [.shut] (d_p61 fu O.len hN h) ?_
 intro os Q hos hQ
 conv => cbv
 refine ⟨(by (rw [hos]) <;> (subst hO; rfl)),?_⟩
 intro r bs hq
 rw [hQ] at hq
 clear hos hQ h
 obtain ⟨y5,_,⟨rfl,rfl⟩,h⟩ := hq
 conv => cbv
 refine br_t hO hc2 ?_
 conv => cbv
 refine br_h hO h (by subst hO; rfl) (fun hc3 h => ?_) (fun hc3 h => ?_)
 conv => cbv
 refine br_t hO hc3 ?_
 conv => cbv
 refine z0c hO [.shut] (d_p62 fu O.len hN h) ?_
 intro os Q hos hQ
 conv => cbv
 refine ⟨(by (rw [hos]) <;> (subst hO; rfl)),?_⟩
 intro r bs hq
 rw [hQ] at hq
 clear hos hQ h
 obtain ⟨y6,_,⟨rfl,rfl⟩,h⟩ := hq
 conv => cbv
 refine br_t hO hc3 ?_
 conv => cbv
 exact hL_1 _ _ ⟨y6,⟨(by (conv => lhs; cbv) <;> (subst hO; rfl)),(by (conv => lhs; cbv) <;> (subst hO; rfl))⟩,h⟩
 conv => cbv
 refine br_f hO hc3 ?_
 conv => cbv
 refine br_f hO hc3 ?_
 conv => cbv
 exact hL_1 _ _ ⟨false,⟨(by (conv => lhs; cbv) <;> (subst hO; rfl)),(by (conv => lhs; cbv) <;> (subst hO; rfl))⟩,h⟩
 conv => cbv
 refine br_f hO hc2 ?_
 conv => cbv
 refine br_f hO hc2 ?_
 conv => cbv
 refine br_f hO rfl ?_
 conv => cbv
 refine br_f hO rfl ?_
 conv => cbv
 refine br_f hO rfl ?_
 conv => cbv
 exact hL_1 _ _ ⟨false,⟨(by (conv => lhs; cbv) <;> (subst hO; rfl)),(by (conv => lhs; cbv) <;> (subst hO; rfl))⟩,h⟩
 conv => cbv
 refine br_f hO hc1 ?_
 conv => cbv
 refine br_f hO hc1 ?_
 conv => cbv
 refine br_f hO hc1 ?_
 conv => cbv
 refine br_f hO rfl ?_
 conv => cbv
 refine br_f hO rfl ?_
 conv => cbv
 refine br_f hO rfl ?_
 conv => cbv
 refine br_f hO rfl ?_
 conv => cbv
 refine br_f hO rfl ?_
 conv => cbv
 refine br_f hO rfl ?_
 conv => cbv
 exact hL_1 _ _ ⟨false,⟨(by (conv => lhs; cbv) <;> (subst hO; rfl)),(by (conv => lhs; cbv) <;> (subst hO; rfl))⟩,h⟩
 rintro tm m ⟨j3,hs,h⟩
 unfold p16_1 at h
 obtain ⟨rfl,rfl⟩ := hs
 conv => cbv
 rw [hQ]
 exact ⟨j3,_,⟨(by subst hO; rfl),(by subst hO; rfl)⟩,h⟩
def BO {ρ : Type} (p : (Bool → ρ) → ρ) (A : Prop) : Prop := ∃ b, (∀ K : Bool → ρ, p K = K b) ∧ (b = true → A)
theorem w8y {ρ : Type} (fail : ρ) (fu : Nat) (k : Int) : ∃ a : Int, (∀ K : Int → ρ, p136 fail fu K k = K a) ∧ ((a = 0 ∧ (k = 0 ∨ k = 1 ∨ k = 2)) ∨ (a = 2 ∧ (k = 3 ∨ k = 4 ∨ k = 5)) ∨ (a = 3 ∧ k = 6) ∨ a = -1) := by
 by_cases h : 0 ≤ k ∧ k ≤ 6
 ·obtain ⟨n, rfl⟩ : ∃ n : Nat, k = n := ⟨k.toNat, by omega⟩
  refine ⟨((nkN n : Nat) : Int), fun K => k1p fail fu K n (by omega), ?_⟩
  have : n = 0 ∨ n = 1 ∨ n = 2 ∨ n = 3 ∨ n = 4 ∨ n = 5 ∨ n = 6 := by omega
  rcases this with rfl | rfl | rfl | rfl | rfl | rfl | rfl <;> simp [nkN, tmN]
 ·refine ⟨-1, fun K => ?_, .inr (.inr (.inr rfl))⟩
  rw [p136, eqlF (by omega), cond_false, eqlF (by omega), cond_false, p136_4, eqlF (by omega), p136_3, cond_false, eqlF (by omega), cond_false, eqlF (by omega), cond_false, p136_2, eqlF (by omega), p136_1, cond_false, eqlF (by omega), cond_false]
def k1e (k n : Int) (s : ByteArray) (ll al : Nat) : Prop :=
 (k = 0 ∧ 0 ≤ n ∧ n ≤ 1073741824 ∧ s.size = 0 ∧ ll = 0 ∧ al = 0) ∨ (k = 1 ∧ n = 0 ∧ s.size = 0 ∧ ll = 1 ∧ al = 0) ∨ (k = 2 ∧ n = 0 ∧ al = 0) ∨ (3 ≤ k ∧ k ≤ 6 ∧ n = 0 ∧ s.size = 0 ∧ ll = 0 ∧ al = tmN k.toNat)
theorem k1u {ρ : Type} (fail : ρ) (fu : Nat) (k n : Int) (s : ByteArray) (L A : EL) : BO (fun K => p108 fail fu K k n s L A) (k1e k n s L.length A.length) := by
 obtain ⟨a, ha, hk⟩ := w8y fail fu k
 have bad : ∀ K : Bool → ρ, p108_2 fail fu K k L true = K false := fun K => by rw [p108_2, cond_true]
 by_cases c1 : a = ((A.length : Nat) : Int)
 ·have h1 : ∀ K : Bool → ρ, p108 fail fu K k n s L A = (bif (z0a .neq k 0) then (bif (z0a .neq n 0) then (p108_2 fail fu K k L true) else (bif (z0a .lss n 0) then (p108_2 fail fu K k L true) else (bif (z0a .gtr n 1073741824) then (p108_2 fail fu K k L true) else (bif (z0a .neq k 2) then (p108_2 fail fu K k L (z2f .neq s ⟨#[]⟩)) else (p108_2 fail fu K k L false))))) else (bif (z0a .lss n 0) then (p108_2 fail fu K k L true) else (bif (z0a .gtr n 1073741824) then (p108_2 fail fu K k L true) else (bif (z0a .neq k 2) then (p108_2 fail fu K k L (z2f .neq s ⟨#[]⟩)) else (p108_2 fail fu K k L false))))) := fun K => by
   rw [p108, ha, neqF c1, cond_false]
  by_cases k2 : k = 2
  ·by_cases n0 : n = 0
   ·refine ⟨true, fun K => ?_, fun _ => .inr (.inr (.inl ⟨k2, n0, by omega⟩))⟩
    dsimp only
    rw [h1, neqT (by omega), cond_true, neqF n0, cond_false, lssF (by omega), cond_false, gtrF (by omega), cond_false, neqF k2, cond_false, p108_2, cond_false, eqlT k2, cond_true, p108_1]
   ·refine ⟨false, fun K => ?_, fun h => by cases h⟩
    dsimp only
    rw [h1, neqT (by omega), cond_true, neqT n0, cond_true, bad]
  ·by_cases hn : 0 ≤ n ∧ n ≤ 1073741824 ∧ (k ≠ 0 → n = 0)
   ·have h2 : ∀ K : Bool → ρ, p108 fail fu K k n s L A = p108_2 fail fu K k L (!decide (s.size = 0)) := fun K => by
     rw [h1]
     by_cases k0 : k = 0
     ·rw [neqF k0, cond_false, lssF (by omega), cond_false, gtrF (by omega), cond_false, neqT k2, cond_true, w2r]
     ·rw [neqT k0, cond_true, neqF (hn.2.2 k0), cond_false, lssF (by omega), cond_false, gtrF (by omega), cond_false, neqT k2, cond_true, w2r]
    by_cases s0 : s.size = 0
    ·have h3 : ∀ K : Bool → ρ, p108 fail fu K k n s L A = (bif (z0a .eql k 1) then (bif (z0a .eql ((L.length : Nat) : Int) 1) then (K true) else (K false)) else (K (z0a .eql ((L.length : Nat) : Int) 0))) := fun K => by
      rw [h2, decide_eq_true s0, Bool.not_true, p108_2, cond_false, eqlF k2, cond_false]; rfl
     by_cases k1 : k = 1
     ·by_cases l1 : L.length = 1
      ·refine ⟨true, fun K => ?_, fun _ => .inr (.inl ⟨k1, hn.2.2 (by omega), s0, l1, by omega⟩)⟩
       dsimp only
       rw [h3, eqlT k1, cond_true, eqlT (by omega), cond_true]
      ·refine ⟨false, fun K => ?_, fun h => by cases h⟩
       dsimp only
       rw [h3, eqlT k1, cond_true, eqlF (by omega), cond_false]
     ·by_cases l0 : L.length = 0
      ·refine ⟨true, fun K => ?_, fun _ => ?_⟩
       ·dsimp only
        rw [h3, eqlF k1, cond_false, eqlT (by omega)]
       ·by_cases k0 : k = 0
        ·exact .inl ⟨k0, hn.1, hn.2.1, s0, l0, by omega⟩
        ·refine .inr (.inr (.inr ⟨by omega, by omega, hn.2.2 k0, s0, l0, ?_⟩))
         rcases hk with ⟨_, h⟩ | ⟨h, h'⟩ | ⟨h, h'⟩ | h
         ·omega
         ·have : k.toNat ≠ 6 := by omega
          unfold tmN; rw [if_neg this]; omega
         ·have : k.toNat = 6 := by omega
          unfold tmN; rw [if_pos this]; omega
         ·omega
      ·refine ⟨false, fun K => ?_, fun h => by cases h⟩
       dsimp only
       rw [h3, eqlF k1, cond_false, eqlF (by omega)]
    ·refine ⟨false, fun K => ?_, fun h => by cases h⟩
     dsimp only
     rw [h2, decide_eq_false s0, Bool.not_false, bad]
   ·refine ⟨false, fun K => ?_, fun h => by cases h⟩
    dsimp only
    rw [h1]
    by_cases k0 : k = 0
    ·rw [neqF k0, cond_false]
     by_cases m1 : n < 0
     ·rw [lssT m1, cond_true, bad]
     ·rw [lssF (by omega), cond_false, gtrT (by omega), cond_true, bad]
    ·rw [neqT k0, cond_true]
     by_cases n0 : n = 0
     ·exact absurd ⟨by omega, by omega, fun _ => n0⟩ hn
     ·rw [neqT n0, cond_true, bad]
 ·refine ⟨false, fun K => ?_, fun h => by cases h⟩
  dsimp only
  rw [p108, ha, neqT c1, cond_true, bad]
mutual
def Tm.whole : Tm → Prop
 | .mk k n s l a => k1e k n s l.length a.length ∧ Tm.wholes a
def Tm.wholes : List Tm → Prop
 | [] => True
 | a :: l => Tm.whole a ∧ Tm.wholes l
end
theorem z4i {k n : Int} {s : ByteArray} {ll al : Nat} (h : k1e k n s ll al) : al ≤ 3 := by
 rcases h with h | h | h | h
 ·omega
 ·omega
 ·omega
 ·have : tmN k.toNat ≤ 3 := by unfold tmN; split <;> omega
  omega
theorem w7y {ρ : Type} (fail : ρ) : ∀ (left : Nat), left ≤ 2000 → ∀ (fu : Nat) (t : Tm), left + 10 ≤ fu →
  ∃ w : Option Nat, (∀ K : Int → Bool → ρ, p59 fail fu K t.k t.n t.nm (Lv.rows t.ls) (Tm.rows t.args) (left : Nat) = match w with | some q => K (q : Nat) true | none => K (-1) false) ∧ ∀ q, w = some q → t.parts + q = left ∧ t.whole := by
 intro left
 induction left using Nat.strongRecOn with
 | ind left ih =>
  intro hl2 fu t hf
  obtain ⟨k, n, s, l, a⟩ := t
  obtain ⟨m, rfl⟩ : ∃ m, fu = m + 1 := ⟨fu - 1, by omega⟩
  simp only [Tm.k, Tm.n, Tm.nm, Tm.ls, Tm.args]
  have hsub : z0d .sub .i64 ((left : Nat) : Int) 1 = ((left : Nat) : Int) - 1 := subZ (by omega) (by omega)
  by_cases h0 : left = 0
  ·refine ⟨none, fun K => ?_, fun q h => by cases h⟩
   rw [p59, p59_b, hsub, lssT (by omega), cond_true, p59_2, cond_true]
  ·obtain ⟨b, hb, hb2⟩ := k1u fail m k n s (Lv.rows l) (Tm.rows a)
   dsimp only at hb
   rw [Lv.rows_len, Tm.rows_len] at hb2
   generalize hs : p59 fail m = sf
   have h1 : ∀ K : Int → Bool → ρ, p59 fail (m + 1) K k n s (Lv.rows l) (Tm.rows a) (left : Nat) = p59_2 fail m sf K (Tm.rows a) ((left - 1 : Nat) : Int) (!b) := fun K => by
    rw [p59, p59_b, hs, hsub, lssF (by omega), cond_false, hb, show ((left : Nat) : Int) - 1 = ((left - 1 : Nat) : Int) by omega]
   cases b with
   | false =>
    refine ⟨none, fun K => ?_, fun q h => by cases h⟩
    rw [h1, p59_2, Bool.not_false, cond_true]
   | true =>
    have hpo := hb2 rfl
    have ha3 := z4i hpo
    have loop : ∀ (r i j lf : Nat), i + r = a.length → r < j → lf ≤ left - 1 → ∃ w : Option Nat, (∀ K : Int → Bool → ρ, p59_1L fail m sf K (Tm.rows a) j ((lf : Nat) : Int) ((i : Nat) : Int) = match w with | some q => K (q : Nat) true | none => K (-1) false) ∧ ∀ q, w = some q → Tm.partss (a.drop i) + q = lf ∧ Tm.wholes (a.drop i) := by
     intro r
     induction r with
     | zero =>
      intro i j lf hi hj hlf
      obtain ⟨j, rfl⟩ : ∃ j', j = j' + 1 := ⟨j - 1, by omega⟩
      refine ⟨some lf, fun K => ?_, fun q h => ?_⟩
      ·rw [p59_1L, p59_1, Tm.rows_len, lssF (by omega), cond_false]
      ·injection h with h
       rw [List.drop_eq_nil_of_le (by omega)]
       exact ⟨by simp [Tm.partss, h], trivial⟩
     | succ r ihr =>
      intro i j lf hi hj hlf
      obtain ⟨j, rfl⟩ : ∃ j', j = j' + 1 := ⟨j - 1, by omega⟩
      have hlt : i < a.length := by omega
      have hd : a.drop i = a[i] :: a.drop (i + 1) := List.drop_eq_getElem_cons hlt
      obtain ⟨w, hw, hw2⟩ := ih lf (by omega) (by omega) m a[i] (by omega)
      rw [hs] at hw
      have h2 : ∀ K : Int → Bool → ρ, p59_1L fail m sf K (Tm.rows a) (j + 1) ((lf : Nat) : Int) ((i : Nat) : Int) = match w with | some q => p59_1L fail m sf K (Tm.rows a) j ((q : Nat) : Int) ((i + 1 : Nat) : Int) | none => K (-1) false := fun K => by
       rw [p59_1L, p59_1, Tm.rows_len, lssT (by omega), cond_true, gd_y (by omega), gd_y (by omega), z5j fail a i hlt, hw]
       cases w with
       | none => simp only [Bool.not_false, cond_true]
       | some q => simp only [Bool.not_true, cond_false]; rw [addZ (by omega) (by omega), show ((i : Nat) : Int) + 1 = ((i + 1 : Nat) : Int) by omega]
      cases w with
      | none => exact ⟨none, fun K => h2 K, fun q h => by cases h⟩
      | some q =>
       obtain ⟨g1, g2⟩ := hw2 q rfl
       obtain ⟨w', hw', hw2'⟩ := ihr (i + 1) j q (by omega) (by omega) (by omega)
       refine ⟨w', fun K => (h2 K).trans (hw' K), fun q' hq => ?_⟩
       obtain ⟨g3, g4⟩ := hw2' q' hq
       rw [hd]
       exact ⟨by simp only [Tm.partss]; omega, g2, g4⟩
    obtain ⟨w, hw, hw2⟩ := loop a.length 0 m (left - 1) (by omega) (by omega) (by omega)
    refine ⟨w, fun K => ?_, fun q hq => ?_⟩
    ·rw [h1, p59_2, Bool.not_true, cond_false]; exact hw K
    ·obtain ⟨g1, g2⟩ := hw2 q hq
     rw [List.drop_zero] at g1 g2
     exact ⟨by simp only [Tm.parts]; omega, hpo, g2⟩
theorem Tm.wholes_mem : ∀ {l : List Tm} {a : Tm}, Tm.wholes l → a ∈ l → a.whole
 | b :: l, a, h, ha => by
  rcases List.mem_cons.1 ha with rfl | ha
  ·exact h.1
  ·exact Tm.wholes_mem h.2 ha
def Tm.dep : Nat → Tm → Prop
 | 0, _ => False
 | d + 1, .mk _ _ _ _ a => ∀ b ∈ a, Tm.dep d b
theorem k0k {ρ : Type} (fail : ρ) : ∀ (most : Nat), most ≤ 100 → ∀ (fu : Nat) (t : Tm), most + 10 ≤ fu → t.whole →
  ∃ d : Nat, (∀ K : Int → ρ, p60 fail fu K t.k t.n t.nm (Lv.rows t.ls) (Tm.rows t.args) (most : Nat) = K (d : Nat)) ∧ d ≤ most + 1 ∧ (d ≤ most → t.dep most) := by
 intro most
 induction most with
 | zero =>
  intro _ fu t hf hw
  obtain ⟨m, rfl⟩ : ∃ m, fu = m + 1 := ⟨fu - 1, by omega⟩
  refine ⟨1, fun K => ?_, by omega, fun h => absurd h (by omega)⟩
  rw [p60, p60_b, show (if (0 : Int) > ((0 : Nat) : Int) then 0 else ((0 : Nat) : Int)) = 0 from rfl, eqlT rfl, cond_true]; rfl
 | succ most ih =>
  intro hm fu t hf hw
  obtain ⟨k, n, s, l, a⟩ := t
  obtain ⟨m, rfl⟩ : ∃ m, fu = m + 1 := ⟨fu - 1, by omega⟩
  simp only [Tm.k, Tm.n, Tm.nm, Tm.ls, Tm.args]
  have ha3 := z4i hw.1
  generalize hs : p60 fail m = sf
  have hif : (if (0 : Int) > ((most + 1 : Nat) : Int) then 0 else ((most + 1 : Nat) : Int)) = ((most + 1 : Nat) : Int) := if_neg (by omega)
  have loop : ∀ (r i j z : Nat), i + r = a.length → r < j → z ≤ most + 1 → ∃ d : Nat, (∀ K : Int → ρ, p60_1L fail m sf K (Tm.rows a) j ((most + 1 : Nat) : Int) ((z : Nat) : Int) ((i : Nat) : Int) = K ((d + 1 : Nat) : Int)) ∧ d ≤ most + 1 ∧ z ≤ d ∧ (d ≤ most → ∀ b ∈ a.drop i, b.dep most) := by
   intro r
   induction r with
   | zero =>
    intro i j z hi hj hz
    obtain ⟨j, rfl⟩ : ∃ j', j = j' + 1 := ⟨j - 1, by omega⟩
    refine ⟨z, fun K => ?_, hz, Nat.le_refl _, fun _ b hb => ?_⟩
    ·rw [p60_1L, p60_1, Tm.rows_len, lssF (by omega), cond_false, addZ (by omega) (by omega)]; rfl
    ·rw [List.drop_eq_nil_of_le (by omega)] at hb; simp at hb
   | succ r ihr =>
    intro i j z hi hj hz
    obtain ⟨j, rfl⟩ : ∃ j', j = j' + 1 := ⟨j - 1, by omega⟩
    have hlt : i < a.length := by omega
    have hd : a.drop i = a[i] :: a.drop (i + 1) := List.drop_eq_getElem_cons hlt
    obtain ⟨d1, h1, h2, h3⟩ := ih (by omega) m a[i] (by omega) (Tm.wholes_mem hw.2 (List.getElem_mem hlt))
    rw [hs] at h1
    have hmax : ∀ K : Int → ρ, p60_1L fail m sf K (Tm.rows a) (j + 1) ((most + 1 : Nat) : Int) ((z : Nat) : Int) ((i : Nat) : Int) = p60_1L fail m sf K (Tm.rows a) j ((most + 1 : Nat) : Int) ((max z d1 : Nat) : Int) ((i + 1 : Nat) : Int) := fun K => by
     rw [p60_1L, p60_1, Tm.rows_len, lssT (by omega), cond_true, gd_y (by omega), gd_y (by omega), z5j fail a i hlt, subZ (by omega) (by omega), show ((most + 1 : Nat) : Int) - 1 = ((most : Nat) : Int) by omega, h1, addZ (by omega) (by omega), show ((i : Nat) : Int) + 1 = ((i + 1 : Nat) : Int) by omega]
     congr 1
     split <;> omega
    obtain ⟨d, g1, g2, g3, g4⟩ := ihr (i + 1) j (max z d1) (by omega) (by omega) (by omega)
    refine ⟨d, fun K => (hmax K).trans (g1 K), g2, by omega, fun hdm b hb => ?_⟩
    rw [hd] at hb
    rcases List.mem_cons.1 hb with rfl | hb
    ·exact h3 (by omega)
    ·exact g4 hdm b hb
  obtain ⟨d, g1, g2, g3, g4⟩ := loop a.length 0 m 0 (by omega) (by omega) (by omega)
  refine ⟨d + 1, fun K => ?_, by omega, fun h b hb => g4 (by omega) b (by simpa using hb)⟩
  rw [p60, p60_b, hs, hif, eqlF (by omega), cond_false]; exact g1 K
theorem w9v {ρ : Type} (fail : ρ) (fu : Nat) (k : Int) : ∃ a : Int, (∀ K : Int → ρ, p138 fail fu K k = K a) ∧ ((0 ≤ k ∧ k ≤ 4 ∧ a = ((if k = 4 then 0 else lvN k.toNat : Nat) : Int)) ∨ a = -1) := by
 by_cases h : 0 ≤ k ∧ k ≤ 4
 ·obtain ⟨n, rfl⟩ : ∃ n : Nat, k = n := ⟨k.toNat, by omega⟩
  have : n = 0 ∨ n = 1 ∨ n = 2 ∨ n = 3 ∨ n = 4 := by omega
  rcases this with rfl | rfl | rfl | rfl | rfl
  ·exact ⟨0, fun K => rfl, .inl ⟨by omega, by omega, rfl⟩⟩
  ·exact ⟨1, fun K => rfl, .inl ⟨by omega, by omega, rfl⟩⟩
  ·exact ⟨2, fun K => rfl, .inl ⟨by omega, by omega, rfl⟩⟩
  ·exact ⟨2, fun K => rfl, .inl ⟨by omega, by omega, rfl⟩⟩
  ·exact ⟨0, fun K => rfl, .inl ⟨by omega, by omega, rfl⟩⟩
 ·refine ⟨-1, fun K => ?_, .inr rfl⟩
  rw [p138, eqlF (by omega), cond_false, eqlF (by omega), p138_2, cond_false, eqlF (by omega), cond_false, eqlF (by omega), cond_false, eqlF (by omega), p138_1, cond_false]
theorem w7m {ρ : Type} (fail : ρ) : ∀ (d : Nat), d ≤ 32 → ∀ (fu : Nat) (l : Lv), d + 10 ≤ fu → BO (fun K : Bool → ρ => p112 fail fu K l.k l.n (Lv.rows l.args) 4 ((33 - d : Nat) : Int)) (l.good d) := by
 intro d
 induction d with
 | zero =>
  intro _ fu l hf
  obtain ⟨m, rfl⟩ : ∃ m, fu = m + 1 := ⟨fu - 1, by omega⟩
  refine ⟨false, fun K => ?_, fun h => by cases h⟩
  dsimp only
  rw [p112, p112_b, gtrT (by omega), cond_true, p112_3, cond_true]
 | succ d ih =>
  intro hd fu l hf
  obtain ⟨k, n, l⟩ := l
  obtain ⟨m, rfl⟩ : ∃ m, fu = m + 1 := ⟨fu - 1, by omega⟩
  simp only [Lv.k, Lv.n, Lv.args]
  obtain ⟨a, ha, hk⟩ := w9v fail m k
  generalize hs : p112 fail m = sf
  have hdd : z0d .add .i64 ((33 - (d + 1) : Nat) : Int) 1 = ((33 - d : Nat) : Int) := by rw [addZ (by omega) (by omega)]; omega
  have h1 : ∀ K : Bool → ρ, p112 fail (m + 1) K k n (Lv.rows l) 4 ((33 - (d + 1) : Nat) : Int) = p112_3 fail m sf K k n (Lv.rows l) 4 ((33 - (d + 1) : Nat) : Int) (z0a .neq a ((l.length : Nat) : Int)) := fun K => by
   rw [p112, p112_b, hs, gtrF (by omega), cond_false, ha, Lv.rows_len]
  generalize hd0 : ((33 - (d + 1) : Nat) : Int) = dd at h1 hdd
  by_cases c1 : a = ((l.length : Nat) : Int)
  ·have hkk : 0 ≤ k ∧ k ≤ 4 ∧ a = ((if k = 4 then 0 else lvN k.toNat : Nat) : Int) := by
    rcases hk with h | h
    ·exact h
    ·omega
   have hl2 : l.length ≤ 2 := by
    obtain ⟨_, _, h⟩ := hkk
    have : (if k = 4 then 0 else lvN k.toNat) ≤ 2 := by
     split
     ·omega
     ·unfold lvN; split
      ·omega
      ·split
       ·omega
       ·split <;> omega
    omega
   have loop : ∀ (r i j : Nat), i + r = l.length → r < j → ∃ b, (∀ K : Bool → ρ, p112_1L fail m sf K (Lv.rows l) 4 dd j ((i : Nat) : Int) = K b) ∧ (b = true → ∀ x ∈ l.drop i, x.good d) := by
    intro r
    induction r with
    | zero =>
     intro i j hi hj
     obtain ⟨j, rfl⟩ : ∃ j', j = j' + 1 := ⟨j - 1, by omega⟩
     refine ⟨true, fun K => ?_, fun _ x hx => ?_⟩
     ·rw [p112_1L, p112_1, Lv.rows_len, lssF (by omega), cond_false]
     ·rw [List.drop_eq_nil_of_le (by omega)] at hx; simp at hx
    | succ r ihr =>
     intro i j hi hj
     obtain ⟨j, rfl⟩ : ∃ j', j = j' + 1 := ⟨j - 1, by omega⟩
     have hlt : i < l.length := by omega
     have hdr : l.drop i = l[i] :: l.drop (i + 1) := List.drop_eq_getElem_cons hlt
     obtain ⟨b, hb, hb2⟩ := ih (by omega) m l[i] (by omega)
     dsimp only at hb
     rw [hs] at hb
     have h2 : ∀ K : Bool → ρ, p112_1L fail m sf K (Lv.rows l) 4 dd (j + 1) ((i : Nat) : Int) = bif (!b) then K false else p112_1L fail m sf K (Lv.rows l) 4 dd j ((i + 1 : Nat) : Int) := fun K => by
      rw [p112_1L, p112_1, Lv.rows_len, lssT (by omega), cond_true, gd_y (by omega), gd_y (by omega), z4y fail l i hlt, hdd, hb, addZ (by omega) (by omega), show ((i : Nat) : Int) + 1 = ((i + 1 : Nat) : Int) by omega]
     cases b with
     | false => exact ⟨false, fun K => h2 K, fun h => by cases h⟩
     | true =>
      obtain ⟨b', g1, g2⟩ := ihr (i + 1) j (by omega) (by omega)
      refine ⟨b', fun K => (h2 K).trans (g1 K), fun hb' x hx => ?_⟩
      rw [hdr] at hx
      rcases List.mem_cons.1 hx with rfl | hx
      ·exact hb2 rfl
      ·exact g2 hb' x hx
   obtain ⟨b, g1, g2⟩ := loop l.length 0 m (by omega) (by omega)
   have h3 : ∀ K : Bool → ρ, p112_2 fail m sf K (Lv.rows l) 4 dd false = K b := fun K => by rw [p112_2, cond_false]; exact g1 K
   have h3t : ∀ K : Bool → ρ, p112_2 fail m sf K (Lv.rows l) 4 dd true = K false := fun K => by rw [p112_2, cond_true]
   by_cases k4 : k = 4
   ·have hl0 : l = [] := by
     have := hkk.2.2; rw [if_pos k4] at this
     exact List.length_eq_zero_iff.1 (by omega)
    by_cases hn : 0 ≤ n ∧ n < 4
    ·refine ⟨b, fun K => ?_, fun hb => ⟨.inl ⟨k4, hn.1, hn.2, hl0⟩, fun x hx => g2 hb x (by simpa using hx)⟩⟩
     dsimp only
     rw [h1, neqF c1, p112_3, cond_false, eqlT k4, cond_true, lssF (by omega), cond_false, geqF (by omega), cond_false, h3]
    ·refine ⟨false, fun K => ?_, fun h => by cases h⟩
     dsimp only
     rw [h1, neqF c1, p112_3, cond_false, eqlT k4, cond_true]
     by_cases n0 : n < 0
     ·rw [lssT n0, cond_true, h3t]
     ·rw [lssF (by omega), cond_false, geqT (by omega), cond_true, h3t]
   ·by_cases n0 : n = 0
    ·refine ⟨b, fun K => ?_, fun hb => ⟨.inr ⟨hkk.1, by omega, n0, ?_⟩, fun x hx => g2 hb x (by simpa using hx)⟩⟩
     ·dsimp only
      rw [h1, neqF c1, p112_3, cond_false, eqlF k4, cond_false, neqF n0, h3]
     ·have := hkk.2.2; rw [if_neg k4] at this; omega
    ·refine ⟨false, fun K => ?_, fun h => by cases h⟩
     dsimp only
     rw [h1, neqF c1, p112_3, cond_false, eqlF k4, cond_false, neqT n0, h3t]
  ·refine ⟨false, fun K => ?_, fun h => by cases h⟩
   dsimp only
   rw [h1, neqT c1, p112_3, cond_true]
theorem Lv.partss_cons (a : Lv) (l : List Lv) : Lv.partss (a :: l) = a.parts + Lv.partss l := rfl
theorem w9n {ρ : Type} (fail : ρ) : ∀ (most : Nat), most ≤ 64 → ∀ (fu : Nat) (l : Lv), most + 80 ≤ fu → ∃ n : Nat, (∀ K : Int → ρ, p111 fail fu K l.k l.n (Lv.rows l.args) (most : Nat) = K (n : Nat)) ∧ 1 ≤ n ∧ n ≤ most + 1 ∧ (n ≤ most → l.parts = n) := by
 intro most
 induction most using Nat.strongRecOn with
 | ind most ih =>
  intro hm fu l hf
  obtain ⟨k, n0, l⟩ := l
  obtain ⟨m, rfl⟩ : ∃ m, fu = m + 1 := ⟨fu - 1, by omega⟩
  simp only [Lv.k, Lv.n, Lv.args]
  generalize hs : p111 fail m = sf
  have hmost1 : z0d .add .i64 ((most : Nat) : Int) 1 = ((most + 1 : Nat) : Int) := by rw [addZ (by omega) (by omega)]; omega
  have loop : ∀ (r i j n : Nat), i ≤ l.length → most + 2 ≤ n + r → r < j → 1 ≤ n → n ≤ most + 1 → i + 1 ≤ n → ∃ q : Nat, (∀ K : Int → ρ, p111_2L fail m sf K (Lv.rows l) ((most : Nat) : Int) j ((n : Nat) : Int) ((i : Nat) : Int) = K ((q : Nat) : Int)) ∧ n ≤ q ∧ q ≤ most + 1 ∧ (q ≤ most → q = n + Lv.partss (l.drop i)) := by
   intro r
   induction r with
   | zero =>
    intro i j n hi hr hj hn1 hn2 _
    omega
   | succ r ihr =>
    intro i j n hi hr hj hn1 hn2 hi2
    obtain ⟨j, rfl⟩ : ∃ j', j = j' + 1 := ⟨j - 1, by omega⟩
    have hend : ∀ K : Int → ρ, p111_1 fail m sf K (p111_2L fail m sf K (Lv.rows l) ((most : Nat) : Int) j) (Lv.rows l) ((most : Nat) : Int) ((n : Nat) : Int) ((i : Nat) : Int) false = K ((n : Nat) : Int) := fun K => by
     rw [p111_1, cond_false, hmost1, if_neg (by omega)]
    by_cases hlt : i < l.length
    ·by_cases hnm : n ≤ most
     ·have hdr : l.drop i = l[i] :: l.drop (i + 1) := List.drop_eq_getElem_cons hlt
      obtain ⟨y, hy, y1, y2, y3⟩ := ih (most - n) (by omega) (by omega) m l[i] (by omega)
      rw [hs] at hy
      have h2 : ∀ K : Int → ρ, p111_2L fail m sf K (Lv.rows l) ((most : Nat) : Int) (j + 1) ((n : Nat) : Int) ((i : Nat) : Int) = p111_2L fail m sf K (Lv.rows l) ((most : Nat) : Int) j ((n + y : Nat) : Int) ((i + 1 : Nat) : Int) := fun K => by
       rw [p111_2L, p111_2, Lv.rows_len, lssT (by omega), cond_true, leqT (by omega), p111_1, cond_true, gd_y (by omega), gd_y (by rw [Lv.rows_len]; omega), z4y fail l i hlt, subZ (by omega) (by omega), show ((most : Nat) : Int) - ((n : Nat) : Int) = ((most - n : Nat) : Int) by omega, hy, addZ (by omega) (by omega), addZ (by omega) (by omega), show ((i : Nat) : Int) + 1 = ((i + 1 : Nat) : Int) by omega, show ((n : Nat) : Int) + ((y : Nat) : Int) = ((n + y : Nat) : Int) by omega]
      obtain ⟨q, g1, g2, g3, g4⟩ := ihr (i + 1) j (n + y) (by omega) (by omega) (by omega) (by omega) (by omega) (by omega)
      refine ⟨q, fun K => (h2 K).trans (g1 K), by omega, g3, fun hq => ?_⟩
      have h5 := y3 (by omega)
      have h6 := g4 hq
      rw [hdr, Lv.partss_cons]; omega
     ·refine ⟨n, fun K => ?_, Nat.le_refl _, hn2, fun h => absurd h hnm⟩
      rw [p111_2L, p111_2, Lv.rows_len, lssT (by omega), cond_true, leqF (by omega)]; exact hend K
    ·refine ⟨n, fun K => ?_, Nat.le_refl _, hn2, fun _ => ?_⟩
     ·rw [p111_2L, p111_2, Lv.rows_len, lssF (by omega), cond_false]; exact hend K
     ·rw [List.drop_eq_nil_of_le (by omega)]; rfl
  obtain ⟨q, g1, g2, g3, g4⟩ := loop (most + 1) 0 m 1 (by omega) (by omega) (by omega) (by omega) (by omega) (by omega)
  refine ⟨q, fun K => ?_, g2, g3, fun h => ?_⟩
  ·rw [p111, p111_b, hs]; exact g1 K
  ·have := g4 h; rw [List.drop_zero] at this; simp only [Lv.parts]; omega
theorem lmay {ρ : Type} (fail : ρ) (fu : Nat) (hf : 200 ≤ fu) (l : Lv) : BO (fun K : Bool → ρ => p69 fail fu K l.k l.n (Lv.rows l.args) 4) (l.good 32 ∧ l.parts ≤ 64) := by
 obtain ⟨n, h1, h2, h3, h4⟩ := w9n fail 64 (by omega) fu l (by omega)
 obtain ⟨b, g1, g2⟩ := w7m fail 32 (by omega) fu l (by omega)
 dsimp only at g1
 have hm : ∀ K : Bool → ρ, p69 fail fu K l.k l.n (Lv.rows l.args) 4 = p111 fail fu (fun y2 => bif (z0a .leq y2 64) then (p112 fail fu (fun y3 => p69_1 fail fu K y3) l.k l.n (Lv.rows l.args) 4 1) else (p69_1 fail fu K false)) l.k l.n (Lv.rows l.args) 64 := fun K => rfl
 by_cases c : n ≤ 64
 ·refine ⟨b, fun K => ?_, fun hb => ⟨g2 hb, by have := h4 c; omega⟩⟩
  dsimp only
  rw [hm, show (64 : Int) = ((64 : Nat) : Int) from rfl, h1, leqT (by omega), cond_true, show (1 : Int) = ((33 - 32 : Nat) : Int) from rfl, g1, p69_1]
 ·refine ⟨false, fun K => ?_, fun h => by cases h⟩
  dsimp only
  rw [hm, show (64 : Int) = ((64 : Nat) : Int) from rfl, h1, leqF (by omega), cond_false, p69_1]
theorem w7k {ρ : Type} (fail : ρ) : ∀ (d : Nat), d ≤ 100 → ∀ (fu : Nat) (t : Tm), d + 220 ≤ fu → t.whole → t.dep d → BO (fun K : Bool → ρ => p61 fail fu K t.k t.n t.nm (Lv.rows t.ls) (Tm.rows t.args)) (∃ P : Tm → Prop, P t ∧ ∀ u, P u → u.ls.length ≤ 4 ∧ (∀ l ∈ u.ls, l.good 32 ∧ l.parts ≤ 64) ∧ ∀ v ∈ u.args, P v) := by
 intro d
 induction d with
 | zero => intro _ fu t _ _ hd; exact hd.elim
 | succ d ih =>
  intro hd fu t hf hw hdep
  obtain ⟨k, n, s, l, a⟩ := t
  obtain ⟨m, rfl⟩ : ∃ m, fu = m + 1 := ⟨fu - 1, by omega⟩
  simp only [Tm.k, Tm.n, Tm.nm, Tm.ls, Tm.args]
  have ha3 := z4i hw.1
  generalize hs : p61 fail m = sf
  by_cases c4 : l.length ≤ 4
  ·have loopA : ∀ (r i j : Nat), i + r = a.length → r < j → BO (fun K : Bool → ρ => p61_1L fail m sf K (Tm.rows a) j ((i : Nat) : Int)) (∀ v ∈ a.drop i, ∃ P : Tm → Prop, P v ∧ ∀ u, P u → u.ls.length ≤ 4 ∧ (∀ l ∈ u.ls, l.good 32 ∧ l.parts ≤ 64) ∧ ∀ v ∈ u.args, P v) := by
    intro r
    induction r with
    | zero =>
     intro i j hi hj
     obtain ⟨j, rfl⟩ : ∃ j', j = j' + 1 := ⟨j - 1, by omega⟩
     refine ⟨true, fun K => ?_, fun _ x hx => ?_⟩
     ·dsimp only; rw [p61_1L, p61_1, Tm.rows_len, lssF (by omega), cond_false]
     ·rw [List.drop_eq_nil_of_le (by omega)] at hx; simp at hx
    | succ r ihr =>
     intro i j hi hj
     obtain ⟨j, rfl⟩ : ∃ j', j = j' + 1 := ⟨j - 1, by omega⟩
     have hlt : i < a.length := by omega
     have hdr : a.drop i = a[i] :: a.drop (i + 1) := List.drop_eq_getElem_cons hlt
     obtain ⟨b, hb, hb2⟩ := ih (by omega) m a[i] (by omega) (Tm.wholes_mem hw.2 (List.getElem_mem hlt)) (hdep _ (List.getElem_mem hlt))
     dsimp only at hb
     rw [hs] at hb
     have h2 : ∀ K : Bool → ρ, p61_1L fail m sf K (Tm.rows a) (j + 1) ((i : Nat) : Int) = bif (!b) then K false else p61_1L fail m sf K (Tm.rows a) j ((i + 1 : Nat) : Int) := fun K => by
      rw [p61_1L, p61_1, Tm.rows_len, lssT (by omega), cond_true, gd_y (by omega), gd_y (by omega), z5j fail a i hlt, hb, addZ (by omega) (by omega), show ((i : Nat) : Int) + 1 = ((i + 1 : Nat) : Int) by omega]
     cases b with
     | false => exact ⟨false, fun K => h2 K, fun h => by cases h⟩
     | true =>
      obtain ⟨b', g1, g2⟩ := ihr (i + 1) j (by omega) (by omega)
      refine ⟨b', fun K => (h2 K).trans (g1 K), fun hb' x hx => ?_⟩
      rw [hdr] at hx
      rcases List.mem_cons.1 hx with rfl | hx
      ·exact hb2 rfl
      ·exact g2 hb' x hx
   obtain ⟨bA, gA1, gA2⟩ := loopA a.length 0 m (by omega) (by omega)
   dsimp only at gA1
   have loopL : ∀ (r i j : Nat), i + r = l.length → r < j → BO (fun K : Bool → ρ => p61_2L fail m sf K (Lv.rows l) (Tm.rows a) j ((i : Nat) : Int)) ((∀ x ∈ l.drop i, x.good 32 ∧ x.parts ≤ 64) ∧ bA = true) := by
    intro r
    induction r with
    | zero =>
     intro i j hi hj
     obtain ⟨j, rfl⟩ : ∃ j', j = j' + 1 := ⟨j - 1, by omega⟩
     refine ⟨bA, fun K => ?_, fun h => ⟨fun x hx => ?_, h⟩⟩
     ·dsimp only; rw [p61_2L, p61_2, Lv.rows_len, lssF (by omega), cond_false]; exact gA1 K
     ·rw [List.drop_eq_nil_of_le (by omega)] at hx; simp at hx
    | succ r ihr =>
     intro i j hi hj
     obtain ⟨j, rfl⟩ : ∃ j', j = j' + 1 := ⟨j - 1, by omega⟩
     have hlt : i < l.length := by omega
     have hdr : l.drop i = l[i] :: l.drop (i + 1) := List.drop_eq_getElem_cons hlt
     obtain ⟨b, hb, hb2⟩ := lmay fail m (by omega) l[i]
     dsimp only at hb
     have h2 : ∀ K : Bool → ρ, p61_2L fail m sf K (Lv.rows l) (Tm.rows a) (j + 1) ((i : Nat) : Int) = bif (!b) then K false else p61_2L fail m sf K (Lv.rows l) (Tm.rows a) j ((i + 1 : Nat) : Int) := fun K => by
      rw [p61_2L, p61_2, Lv.rows_len, lssT (by omega), cond_true, gd_y (by omega), gd_y (by omega), z4y fail l i hlt, hb, addZ (by omega) (by omega), show ((i : Nat) : Int) + 1 = ((i + 1 : Nat) : Int) by omega]
     cases b with
     | false => exact ⟨false, fun K => h2 K, fun h => by cases h⟩
     | true =>
      obtain ⟨b', g1, g2⟩ := ihr (i + 1) j (by omega) (by omega)
      refine ⟨b', fun K => (h2 K).trans (g1 K), fun hb' => ⟨fun x hx => ?_, (g2 hb').2⟩⟩
      rw [hdr] at hx
      rcases List.mem_cons.1 hx with rfl | hx
      ·exact hb2 rfl
      ·exact (g2 hb').1 x hx
   obtain ⟨b, g1, g2⟩ := loopL l.length 0 m (by omega) (by omega)
   dsimp only at g1
   refine ⟨b, fun K => ?_, fun hb => ?_⟩
   ·dsimp only
    rw [p61, p61_b, hs, Lv.rows_len, gtrF (by omega), cond_false]; exact g1 K
   ·obtain ⟨q1, q2⟩ := g2 hb
    have q3 := gA2 q2
    refine ⟨fun u => u = .mk k n s l a ∨ ∃ v ∈ a, ∃ P : Tm → Prop, P v ∧ (∀ u, P u → u.ls.length ≤ 4 ∧ (∀ l ∈ u.ls, l.good 32 ∧ l.parts ≤ 64) ∧ ∀ v ∈ u.args, P v) ∧ P u, .inl rfl, ?_⟩
    rintro u (rfl | ⟨v, hv, P, hP1, hP2, hP3⟩)
    ·refine ⟨c4, fun x hx => q1 x (by simpa using hx), fun v hv => ?_⟩
     obtain ⟨P, p1, p2⟩ := q3 v (by simpa using hv)
     exact .inr ⟨v, hv, P, p1, p2, p1⟩
    ·obtain ⟨r1, r2, r3⟩ := hP2 u hP3
     exact ⟨r1, r2, fun w hw => .inr ⟨v, hv, P, hP1, hP2, r3 w hw⟩⟩
  ·refine ⟨false, fun K => ?_, fun h => by cases h⟩
   dsimp only
   rw [p61, p61_b, Lv.rows_len, gtrT (by omega), cond_true]
theorem w9s {ρ : Type} (fail : ρ) : ∀ (d : Nat), d ≤ 100 → ∀ (fu : Nat) (t : Tm), d + 20 ≤ fu → t.whole → t.dep d → BO (fun K : Bool → ρ => p62 fail fu K t.k t.n t.nm (Lv.rows t.ls) (Tm.rows t.args)) (∃ P : Tm → Prop, P t ∧ ∀ u, P u → u.nm.size ≤ 24 ∧ ∀ v ∈ u.args, P v) := by
 intro d
 induction d with
 | zero => intro _ fu t _ _ hd; exact hd.elim
 | succ d ih =>
  intro hd fu t hf hw hdep
  obtain ⟨k, n, s, l, a⟩ := t
  obtain ⟨m, rfl⟩ : ∃ m, fu = m + 1 := ⟨fu - 1, by omega⟩
  simp only [Tm.k, Tm.n, Tm.nm, Tm.ls, Tm.args]
  have ha3 := z4i hw.1
  generalize hs : p62 fail m = sf
  by_cases c4 : s.size ≤ 24
  ·have loopA : ∀ (r i j : Nat), i + r = a.length → r < j → BO (fun K : Bool → ρ => p62_1L fail m sf K (Tm.rows a) j ((i : Nat) : Int)) (∀ v ∈ a.drop i, ∃ P : Tm → Prop, P v ∧ ∀ u, P u → u.nm.size ≤ 24 ∧ ∀ v ∈ u.args, P v) := by
    intro r
    induction r with
    | zero =>
     intro i j hi hj
     obtain ⟨j, rfl⟩ : ∃ j', j = j' + 1 := ⟨j - 1, by omega⟩
     refine ⟨true, fun K => ?_, fun _ x hx => ?_⟩
     ·dsimp only; rw [p62_1L, p62_1, Tm.rows_len, lssF (by omega), cond_false]
     ·rw [List.drop_eq_nil_of_le (by omega)] at hx; simp at hx
    | succ r ihr =>
     intro i j hi hj
     obtain ⟨j, rfl⟩ : ∃ j', j = j' + 1 := ⟨j - 1, by omega⟩
     have hlt : i < a.length := by omega
     have hdr : a.drop i = a[i] :: a.drop (i + 1) := List.drop_eq_getElem_cons hlt
     obtain ⟨b, hb, hb2⟩ := ih (by omega) m a[i] (by omega) (Tm.wholes_mem hw.2 (List.getElem_mem hlt)) (hdep _ (List.getElem_mem hlt))
     dsimp only at hb
     rw [hs] at hb
     have h2 : ∀ K : Bool → ρ, p62_1L fail m sf K (Tm.rows a) (j + 1) ((i : Nat) : Int) = bif (!b) then K false else p62_1L fail m sf K (Tm.rows a) j ((i + 1 : Nat) : Int) := fun K => by
      rw [p62_1L, p62_1, Tm.rows_len, lssT (by omega), cond_true, gd_y (by omega), gd_y (by omega), z5j fail a i hlt, hb, addZ (by omega) (by omega), show ((i : Nat) : Int) + 1 = ((i + 1 : Nat) : Int) by omega]
     cases b with
     | false => exact ⟨false, fun K => h2 K, fun h => by cases h⟩
     | true =>
      obtain ⟨b', g1, g2⟩ := ihr (i + 1) j (by omega) (by omega)
      refine ⟨b', fun K => (h2 K).trans (g1 K), fun hb' x hx => ?_⟩
      rw [hdr] at hx
      rcases List.mem_cons.1 hx with rfl | hx
      ·exact hb2 rfl
      ·exact g2 hb' x hx
   obtain ⟨b, g1, g2⟩ := loopA a.length 0 m (by omega) (by omega)
   dsimp only at g1
   refine ⟨b, fun K => ?_, fun hb => ?_⟩
   ·dsimp only
    rw [p62, p62_b, hs, gtrF (by omega), cond_false]; exact g1 K
   ·have q3 := g2 hb
    refine ⟨fun u => u = .mk k n s l a ∨ ∃ v ∈ a, ∃ P : Tm → Prop, P v ∧ (∀ u, P u → u.nm.size ≤ 24 ∧ ∀ v ∈ u.args, P v) ∧ P u, .inl rfl, ?_⟩
    rintro u (rfl | ⟨v, hv, P, hP1, hP2, hP3⟩)
    ·refine ⟨c4, fun v hv => ?_⟩
     obtain ⟨P, p1, p2⟩ := q3 v (by simpa using hv)
     exact .inr ⟨v, hv, P, p1, p2, p1⟩
    ·obtain ⟨r1, r3⟩ := hP2 u hP3
     exact ⟨r1, fun w hw => .inr ⟨v, hv, P, hP1, hP2, r3 w hw⟩⟩
  ·refine ⟨false, fun K => ?_, fun h => by cases h⟩
   dsimp only
   rw [p62, p62_b, gtrT (by omega), cond_true]
theorem k0a {P Q : Tm → Prop} (hP : ∀ u, P u → u.ls.length ≤ 4 ∧ (∀ l ∈ u.ls, l.good 32 ∧ l.parts ≤ 64) ∧ ∀ v ∈ u.args, P v) (hQ : ∀ u, Q u → u.nm.size ≤ 24 ∧ ∀ v ∈ u.args, Q v) : ∀ (d : Nat) (t : Tm), t.whole → t.dep d → P t → Q t → t.good d
 | 0, _, _, h, _, _ => h
 | d + 1, .mk k n s l a, hw, hd, hp, hq => by
  obtain ⟨p1, p2, p3⟩ := hP _ hp
  obtain ⟨q1, q2⟩ := hQ _ hq
  refine ⟨?_, p2, fun b hb => k0a hP hQ d b (Tm.wholes_mem hw.2 hb) (hd b hb) (p3 b hb) (q2 b hb)⟩
  rcases hw.1 with ⟨h1, h2, h3, h4, h5, h6⟩ | ⟨h1, h2, h3, h4, h5⟩ | ⟨h1, h2, h3⟩ | ⟨h1, h2, h3, h4, h5, h6⟩
  ·exact .inl ⟨h1, h2, h3, h4, List.length_eq_zero_iff.1 h5, List.length_eq_zero_iff.1 h6⟩
  ·exact .inr (.inl ⟨h1, h2, h3, h4, List.length_eq_zero_iff.1 h5⟩)
  ·exact .inr (.inr (.inl ⟨h1, h2, q1, p1, List.length_eq_zero_iff.1 h3⟩))
  ·exact .inr (.inr (.inr ⟨h1, h2, h3, h4, List.length_eq_zero_iff.1 h5, h6⟩))
theorem w7l {ρ : Type} (fail : ρ) (fu : Nat) (hf : 3000 ≤ fu) (t : Tm) : BO (fun K : Bool → ρ => p16 fail fu K t.k t.n t.nm (Lv.rows t.ls) (Tm.rows t.args)) (t.good 100 ∧ t.parts ≤ 2000) := by
 obtain ⟨w, hw, hw2⟩ := w7y fail 2000 (by omega) fu t (by omega)
 have e2000 : (2000 : Int) = ((2000 : Nat) : Int) := rfl
 have e100 : (100 : Int) = ((100 : Nat) : Int) := rfl
 cases w with
 | none =>
  refine ⟨false, fun K => ?_, fun h => by cases h⟩
  dsimp only
  rw [p16, e2000, hw, cond_false, p16_1]
 | some q =>
  obtain ⟨g1, g2⟩ := hw2 q rfl
  obtain ⟨d, h1, h2, h3⟩ := k0k fail 100 (by omega) fu t (by omega) g2
  by_cases c : d ≤ 100
  ·obtain ⟨b, hb, hb2⟩ := w7k fail 100 (by omega) fu t (by omega) g2 (h3 c)
   obtain ⟨b', hb', hb2'⟩ := w9s fail 100 (by omega) fu t (by omega) g2 (h3 c)
   dsimp only at hb hb'
   cases b with
   | false =>
    refine ⟨false, fun K => ?_, fun h => by cases h⟩
    dsimp only
    rw [p16, e2000, hw]
    dsimp only
    rw [cond_true, e100, h1, leqT (by omega), cond_true, hb, cond_false, p16_1]
   | true =>
    refine ⟨b', fun K => ?_, fun h => ?_⟩
    ·dsimp only
     rw [p16, e2000, hw]
     dsimp only
     rw [cond_true, e100, h1, leqT (by omega), cond_true, hb, cond_true, hb', p16_1]
    ·obtain ⟨P, p1, p2⟩ := hb2 rfl
     obtain ⟨Q, q1, q2⟩ := hb2' h
     exact ⟨k0a p2 q2 100 t g2 (h3 c) p1 q1, by omega⟩
  ·refine ⟨false, fun K => ?_, fun h => by cases h⟩
   dsimp only
   rw [p16, e2000, hw]
   dsimp only
   rw [cond_true, e100, h1, leqF (by omega), cond_false, p16_1]
mutual
theorem Lv.sz_parts : ∀ l : Lv, l.sz + 1 = 2 * l.parts
 | .mk k n l => by have := Lv.szs_parts l; simp only [Lv.sz, Lv.parts]; omega
theorem Lv.szs_parts : ∀ l : List Lv, Lv.szs l = 2 * Lv.partss l
 | [] => rfl
 | a :: l => by have := Lv.sz_parts a; have h2 := Lv.szs_parts l; simp only [Lv.szs, Lv.partss]; omega
end
theorem w2t : ∀ (l : List Lv), (∀ b ∈ l, Lv.good 32 b ∧ b.parts ≤ 64) → Lv.szs l ≤ 128 * l.length
 | [], _ => Nat.le_refl _
 | a :: l, h => by
  have h1 := (h a (by simp)).2
  have h2 := Lv.sz_parts a
  have h3 := w2t l fun b hb => h b (by simp [hb])
  simp only [Lv.szs, List.length_cons]; omega
theorem w8u {d : Nat} (hd : ∀ t : Tm, t.good d → t.sz + 1 ≤ 600 * t.parts) : ∀ (a : List Tm), (∀ b ∈ a, Tm.good d b) → Tm.szs a ≤ 600 * Tm.partss a
 | [], _ => Nat.le_refl _
 | b :: a, h => by
  have h1 := hd b (h b (by simp))
  have h2 := w8u hd a fun c hc => h c (by simp [hc])
  simp only [Tm.szs, Tm.partss]; omega
theorem w4q : ∀ (d : Nat) (t : Tm), t.good d → t.sz + 1 ≤ 600 * t.parts
 | 0, _, h => h.elim
 | d + 1, .mk k n s l a, h => by
  obtain ⟨hk, hl, ha⟩ := h
  have h1 := w2t l hl
  have h2 := w8u (w4q d) a ha
  simp only [Tm.sz, Tm.parts]
  have h3 : s.size ≤ 24 ∧ l.length ≤ 4 := by
   rcases hk with ⟨_, _, _, h, h', _⟩ | ⟨_, _, h, h', _⟩ | ⟨_, _, h, h', _⟩ | ⟨_, _, _, h, h', _⟩
   ·rw [h']; exact ⟨by omega, Nat.zero_le _⟩
   ·omega
   ·omega
   ·rw [h']; exact ⟨by omega, Nat.zero_le _⟩
  omega
def p84_1 {ρ : Type} (fail : ρ) (fu : Nat) (K0 : EL → ρ) (rec1 : EL → Int → ρ) (x1 : Int) (z2 : EL) (z3 : Int) : ρ :=
 bif (z0a .geq z3 0) then (gd ((0 : Int) ≤ (IntKind.u64.wrap z3)) fail (gd (1 ≤ [[(CV.v (.int .u8 (IntKind.u8.wrap (z0d .shr .u64 x1 (IntKind.u64.wrap z3)))))]].length) fail (gd ((z2.length + (List.take 1 [[(CV.v (.int .u8 (IntKind.u8.wrap (z0d .shr .u64 x1 (IntKind.u64.wrap z3)))))]]).length) * 1 ≤ 35184372088832) fail (rec1 (z2 ++ (List.take 1 [[(CV.v (.int .u8 (IntKind.u8.wrap (z0d .shr .u64 x1 (IntKind.u64.wrap z3)))))]])) (z0d .sub .i64 z3 8))))) else (K0 z2)
def p84_1L {ρ : Type} (fail : ρ) (fu : Nat) (K0 : EL → ρ) (x1 : Int) : Nat → EL → Int → ρ
 | 0,_,_ => fail
 | n + 1,z2,z3 => p84_1 fail fu K0 (p84_1L fail fu K0 x1 n) x1 z2 z3
def p84 {ρ : Type} (fail : ρ) (fu : Nat) (K0 : EL → ρ) (x0 : EL) (x1 : Int) : ρ :=
 p120 fail fu (fun y1 => p84_1L fail fu K0 x1 fu y1 56) x0 8
def p85_1 {ρ : Type} (fail : ρ) (fu : Nat) (K0 : EL → ρ) (j1 : EL) : ρ :=
 K0 j1
def p85 {ρ : Type} (fail : ρ) (fu : Nat) (K0 : EL → ρ) (x0 : EL) (x1 : Bool) : ρ :=
 bif x1 then (gd (1 ≤ [[(CV.v (.int .i64 1))]].length) fail (p83 fail fu (fun y2 => p85_1 fail fu K0 y2) x0 (List.take 1 [[(CV.v (.int .i64 1))]]))) else (gd (1 ≤ [[(CV.v (.int .i64 0))]].length) fail (p83 fail fu (fun y3 => p85_1 fail fu K0 y3) x0 (List.take 1 [[(CV.v (.int .i64 0))]])))
def p43_1 {ρ : Type} (fail : ρ) (fu : Nat) (K0 : EL → ρ) (rec1 : EL → Int → Int → ρ) (x13 z11 : EL) (z12 z13 : Int) : ρ :=
 bif (z0a .lss z13 z12) then (gd ((0 : Int) ≤ z13) fail (gd ((z13 : Int) < (x13.length : Nat)) fail (rw_s fail (List.getD x13 ((z13 : Int).toNat) []) (fun c14 => gd (c14.size ≤ (encB c14.data.toList).length) fail (p87 fail fu (fun y15 => rec1 y15 z12 (z0d .add .i64 z13 1)) z11 (List.take c14.size (encB c14.data.toList))))))) else (K0 z11)
def p43_1L {ρ : Type} (fail : ρ) (fu : Nat) (K0 : EL → ρ) (x13 : EL) : Nat → EL → Int → Int → ρ
 | 0,_,_,_ => fail
 | n + 1,z11,z12,z13 => p43_1 fail fu K0 (p43_1L fail fu K0 x13 n) x13 z11 z12 z13
def p43_2 {ρ : Type} (fail : ρ) (fu : Nat) (K0 : EL → ρ) (x12 : Int) (x13 j9 : EL) : ρ :=
 gd (2 ≤ [[(CV.v (.int .i64 x12))],[(CV.v (.int .i64 ((x13.length : Nat) : Int)))]].length) fail (p83 fail fu (fun y10 => p43_1L fail fu K0 x13 fu y10 ((x13.length : Nat) : Int) 0) j9 (List.take 2 [[(CV.v (.int .i64 x12))],[(CV.v (.int .i64 ((x13.length : Nat) : Int)))]]))
def p43 {ρ : Type} (fail : ρ) (fu : Nat) (K0 : EL → ρ) (x0 : EL) (x1 x2 x3 x4 x5 : Int) (x6 : Bool) (x7 x8 : Int) (x9 : ByteArray) (x10 x11 : EL) (x12 : Int) (x13 : EL) : ρ :=
 p63 fail fu (fun y1 => gd (1 ≤ [[(CV.v (.int .i64 x1))]].length) fail (p83 fail fu (fun y2 => p84 fail fu (fun y3 => p84 fail fu (fun y4 => gd (2 ≤ [[(CV.v (.int .i64 x4))],[(CV.v (.int .i64 x5))]].length) fail (p83 fail fu (fun y5 => p85 fail fu (fun y6 => p86 fail fu (fun y7 => p85 fail fu (fun y8 => bif (!y7) then (p64 fail fu (fun y16 => p43_2 fail fu K0 x12 x13 y16) y8 x7 x8 x9 x10 x11) else (p43_2 fail fu K0 x12 x13 y8)) y6 (!y7)) x7 x8 x9 x10 x11 0 0 ⟨#[]⟩ nilE nilE) y5 x6) y4 (List.take 2 [[(CV.v (.int .i64 x4))],[(CV.v (.int .i64 x5))]]))) y3 x3) y2 x2) y1 (List.take 1 [[(CV.v (.int .i64 x1))]]))) x0
theorem d_p84 (fu : Nat) {K0 : EL → Prop} (L : EL → Nat) (hN : L = List.length) {x0 : EL} {x1 : Int} (h : p84 False fu K0 x0 x1) : Den Try.prog G0 84 [.c (.sl 1 x0 none),.c (.v (.int .u64 x1))] (fun r bs => (∃ (y0 : EL) (o0 o1 : OV),(r = .arr 1 y0 none false (L y0) ∧ bs = [o0,o1]) ∧ K0 y0)) := by
 obtain ⟨O,hO⟩ : ∃ O,O = std 0 T G0 (Den Try.prog G0) := ⟨_,rfl⟩
 have hLO : L = O.len := by rw [hN,hO]; rfl
 subst hLO
 refine den_h hO tiA mixed tabOk (fn := Try.f84) (sh := false) (by kernel_rfl) rfl rfl rfl rfl ?_
 intro Q hQ
 unfold p84 at h
 conv => cbv
 refine z0c hO [.shut,.shut] (d_p120 fu O.len hN h) ?_
 intro os Q hos hQ
 conv => cbv
 refine ⟨(by (rw [hos]) <;> (subst hO; rfl)),?_⟩
 intro r bs hq
 rw [hQ] at hq
 clear hos hQ h
 obtain ⟨y1,_,_,⟨rfl,rfl⟩,h⟩ := hq
 conv => cbv
 refine z0s hO tiA [1,5,6] [9000] [] (fun (n : Nat) tm m => ∃ (z2 : EL) (z3 : Int),((tm = frame 0 22 [(1,.c (.v (.int .u64 x1))),(5,.t 9000 0 (O.len z2)),(6,.c (.v (.int .i64 z3)))] ∧ m = ⟨[(9000,.arr 0 1 z2 none false)],1⟩)) ∧ p84_1L False fu K0 x1 n z2 z3) (fun n => n) fu ⟨y1,56,⟨(by (conv => lhs; cbv) <;> (subst hO; rfl)),(by (conv => lhs; cbv) <;> (subst hO; rfl))⟩,h⟩ ?_
 rintro n1 tm m L ⟨z2,z3,hs,h⟩ hLn1
 (cases n1 with
 | zero => rw [p84_1L] at h; exact h.elim
 | succ n1 =>
 rw [p84_1L] at h
 unfold p84_1 at h
 obtain ⟨rfl,rfl⟩ := hs
 conv => cbv
 refine br_h hO h (by subst hO; rfl) (fun hc1 h => ?_) (fun hc1 h => ?_)
 conv => cbv
 refine z0b hO ?_
 conv => cbv
 refine alt_l hO ?_
 conv => cbv
 refine and_h h (fun g => (by subst hO; exact g)) (fun h => ?_)
 refine z0v hO h (fun g => (by subst hO; exact g)) (fun h => ?_)
 conv => cbv
 refine ⟨(by subst hO; rfl),?_⟩
 refine and_h h (fun g => (by subst hO; exact g)) (fun h => ?_)
 exact hLn1 n1 _ _ (Nat.lt_succ_self n1) ⟨(z2 ++ (List.take 1 [[(CV.v (.int .u8 (IntKind.u8.wrap (z0d .shr .u64 x1 (IntKind.u64.wrap z3)))))]])),z0d .sub .i64 z3 8,⟨(by (conv => lhs; cbv) <;> (subst hO; rfl)),(by (conv => lhs; cbv) <;> (subst hO; rfl))⟩,h⟩
 conv => cbv
 refine alt_l hO ?_
 conv => cbv
 refine ⟨(by subst hO; exact Nat.le_refl _),?_⟩
 rw [hQ]
 exact ⟨z2,_,_,⟨(by subst hO; rfl),(by subst hO; rfl)⟩,h⟩)
theorem d_p85 (fu : Nat) {K0 : EL → Prop} (L : EL → Nat) (hN : L = List.length) {x0 : EL} {x1 : Bool} (h : p85 False fu K0 x0 x1) : Den Try.prog G0 85 [.ptr [.arr 1 x0 none false (L x0)],.c (.v (.bool x1))] (fun r bs => (∃ (y0 : EL) (o1 : OV),(r = .tup [] ∧ bs = [.ptr [.arr 1 y0 none false (L y0)],o1]) ∧ K0 y0)) := by
 obtain ⟨O,hO⟩ : ∃ O,O = std 2 T G0 (Den Try.prog G0) := ⟨_,rfl⟩
 have hLO : L = O.len := by rw [hN,hO]; rfl
 subst hLO
 refine den_h hO tiA mixed tabOk (fn := Try.f85) (sh := true) (by kernel_rfl) rfl rfl rfl rfl ?_
 intro Q hQ
 unfold p85 at h
 conv => cbv
 refine z0h hO tiA h (by subst hO; rfl) [] [0,1000000] [] (fun tm m => ∃ (j1 : EL),((tm = frame 0 11 [] ∧ m = ⟨[(0,.blk 1 [.t 1000000 2 (O.len j1)]),(1000000,.arr 2 1 j1 none false)],3⟩)) ∧ p85_1 False fu K0 j1) (fun hc1 h L hL_1 => ?_) (fun hc1 h L hL_1 => ?_) ?_
 conv => cbv
 have hz := z0u h
 have hc2 := hz.1
 replace h := hz.2
 clear hz
 refine z0c hO [.ref 1,.shut] (d_p83 fu O.len hN h) ?_
 intro os Q hos hQ
 conv => cbv
 refine ⟨(by subst hO; exact Nat.le_refl _),?_⟩
 refine z0r hO (by subst hO; exact hc2) ?_
 conv => cbv
 refine ⟨(by (rw [hos]) <;> (subst hO; rfl)),?_⟩
 intro r bs hq
 rw [hQ] at hq
 clear hos hQ h
 obtain ⟨y2,_,⟨rfl,rfl⟩,h⟩ := hq
 conv => cbv
 exact hL_1 _ _ ⟨y2,⟨(by (conv => lhs; cbv) <;> (subst hO; rfl)),(by (conv => lhs; cbv) <;> (subst hO; rfl))⟩,h⟩
 conv => cbv
 have hz := z0u h
 have hc3 := hz.1
 replace h := hz.2
 clear hz
 refine z0c hO [.ref 1,.shut] (d_p83 fu O.len hN h) ?_
 intro os Q hos hQ
 conv => cbv
 refine ⟨(by subst hO; exact Nat.le_refl _),?_⟩
 refine z0r hO (by subst hO; exact hc3) ?_
 conv => cbv
 refine ⟨(by (rw [hos]) <;> (subst hO; rfl)),?_⟩
 intro r bs hq
 rw [hQ] at hq
 clear hos hQ h
 obtain ⟨y3,_,⟨rfl,rfl⟩,h⟩ := hq
 conv => cbv
 exact hL_1 _ _ ⟨y3,⟨(by (conv => lhs; cbv) <;> (subst hO; rfl)),(by (conv => lhs; cbv) <;> (subst hO; rfl))⟩,h⟩
 rintro tm m ⟨j1,hs,h⟩
 unfold p85_1 at h
 obtain ⟨rfl,rfl⟩ := hs
 conv => cbv
 refine ⟨(by subst hO; exact Nat.le_refl _),?_⟩
 rw [hQ]
 exact ⟨j1,_,⟨(by subst hO; rfl),(by subst hO; rfl)⟩,h⟩
theorem d_p43 (fu : Nat) {K0 : EL → Prop} (L : EL → Nat) (hN : L = List.length) {x0 : EL} {x1 x2 x3 x4 x5 : Int} {x6 : Bool} {x7 x8 : Int} {x9 : ByteArray} {x10 x11 : EL} {x12 : Int} {x13 : EL} (h : p43 False fu K0 x0 x1 x2 x3 x4 x5 x6 x7 x8 x9 x10 x11 x12 x13) : Den Try.prog G0 43 [.c (.sl 1 x0 none),.agg [.c (.v (.int .i64 x1)),.c (.v (.int .u64 x2)),.c (.v (.int .u64 x3)),.c (.v (.int .i64 x4)),.c (.v (.int .i64 x5)),.c (.v (.bool x6)),.c (.v (.int .i64 x7)),.c (.v (.int .i64 x8)),.c (.v (.string x9)),.c (.sl 3 x10 none),.c (.sl 5 x11 none),.c (.v (.int .i64 x12)),.c (.sl 1 x13 none)]] (fun r bs => (∃ (y0 : EL) (o0 o1 : OV),(r = .arr 1 y0 none false (L y0) ∧ bs = [o0,o1]) ∧ K0 y0)) := by
 obtain ⟨O,hO⟩ : ∃ O,O = std 0 T G0 (Den Try.prog G0) := ⟨_,rfl⟩
 have hLO : L = O.len := by rw [hN,hO]; rfl
 subst hLO
 refine den_h hO tiA mixed tabOk (fn := Try.f43) (sh := false) (by kernel_rfl) rfl rfl rfl rfl ?_
 intro Q hQ
 unfold p43 at h
 conv => cbv
 refine z0c hO [.shut] (d_p63 fu O.len hN h) ?_
 intro os Q hos hQ
 conv => cbv
 refine ⟨(by (rw [hos]) <;> (subst hO; rfl)),?_⟩
 intro r bs hq
 rw [hQ] at hq
 clear hos hQ h
 obtain ⟨y1,_,⟨rfl,rfl⟩,h⟩ := hq
 conv => cbv
 have hz := z0u h
 have hc6 := hz.1
 replace h := hz.2
 clear hz
 refine z0c hO [.ref 1,.shut] (d_p83 fu O.len hN h) ?_
 intro os Q hos hQ
 conv => cbv
 refine ⟨(by subst hO; exact Nat.le_refl _),?_⟩
 refine z0r hO (by subst hO; exact hc6) ?_
 conv => cbv
 refine ⟨(by (rw [hos]) <;> (subst hO; rfl)),?_⟩
 intro r bs hq
 rw [hQ] at hq
 clear hos hQ h
 obtain ⟨y2,_,⟨rfl,rfl⟩,h⟩ := hq
 conv => cbv
 refine z0i hO tiA [[11001000000],[],[],[]] [(0,true,false),(1,true,false),(2,true,false),(3,true,false),(4,true,false),(5,true,false),(6,true,false),(7,true,false),(9,true,false),(10,true,false),(11,true,false),(8,false,false),(12,false,true),(13,true,true),(14,true,true),(15,false,true)] (by kernel_rfl) ?_
 conv => cbv
 refine z0c hO [.shut,.shut] (d_p84 fu O.len hN h) ?_
 intro os Q hos hQ
 conv => cbv
 refine z0m hO ?_
 conv => cbv
 refine ⟨(by (rw [hos]) <;> (subst hO; rfl)),?_⟩
 intro r bs hq
 rw [hQ] at hq
 clear hos hQ h
 obtain ⟨y3,_,_,⟨rfl,rfl⟩,h⟩ := hq
 conv => cbv
 refine ⟨z0e hO (Nat.le_of_ble_eq_true rfl) rfl,?_⟩
 refine z0c hO [.shut,.shut] (d_p84 fu O.len hN h) ?_
 intro os Q hos hQ
 conv => cbv
 refine z0m hO ?_
 conv => cbv
 refine ⟨(by (rw [hos]) <;> (subst hO; rfl)),?_⟩
 intro r bs hq
 rw [hQ] at hq
 clear hos hQ h
 obtain ⟨y4,_,_,⟨rfl,rfl⟩,h⟩ := hq
 conv => cbv
 refine z0b hO ?_
 conv => cbv
 have hz := z0u h
 have hc5 := hz.1
 replace h := hz.2
 clear hz
 refine z0c hO [.ref 1,.shut] (d_p83 fu O.len hN h) ?_
 intro os Q hos hQ
 conv => cbv
 refine ⟨(by subst hO; exact Nat.le_refl _),?_⟩
 refine z0r hO (by subst hO; exact hc5) ?_
 conv => cbv
 refine ⟨(by (rw [hos]) <;> (subst hO; rfl)),?_⟩
 intro r bs hq
 rw [hQ] at hq
 clear hos hQ h
 obtain ⟨y5,_,⟨rfl,rfl⟩,h⟩ := hq
 conv => cbv
 refine z0c hO [.ref 1,.shut] (d_p85 fu O.len hN h) ?_
 intro os Q hos hQ
 conv => cbv
 refine ⟨(by subst hO; exact Nat.le_refl _),?_⟩
 refine ⟨(by (rw [hos]) <;> (subst hO; rfl)),?_⟩
 intro r bs hq
 rw [hQ] at hq
 clear hos hQ h
 obtain ⟨y6,_,⟨rfl,rfl⟩,h⟩ := hq
 conv => cbv
 refine z0c hO [.shut,.shut] (d_p86 fu O.len hN h) ?_
 intro os Q hos hQ
 conv => cbv
 refine ⟨(by (rw [hos]) <;> (subst hO; rfl)),?_⟩
 intro r bs hq
 rw [hQ] at hq
 clear hos hQ h
 obtain ⟨y7,_,_,⟨rfl,rfl⟩,h⟩ := hq
 conv => cbv
 refine z0c hO [.ref 1,.shut] (d_p85 fu O.len hN h) ?_
 intro os Q hos hQ
 conv => cbv
 refine ⟨(by subst hO; exact Nat.le_refl _),?_⟩
 refine ⟨(by (rw [hos]) <;> (subst hO; rfl)),?_⟩
 intro r bs hq
 rw [hQ] at hq
 clear hos hQ h
 obtain ⟨y8,_,⟨rfl,rfl⟩,h⟩ := hq
 conv => cbv
 refine z0h hO tiA h (by subst hO; rfl) [3,5] [4000,11000,11001000000] [] (fun tm m => ∃ (j9 : EL),((tm = frame 0 79 [(3,.p 4000 0 0),(5,.p 11000 0 0)] ∧ m = ⟨[(4000,.blk 0 [.c (.v (.int .i64 x1)),.c (.v (.int .u64 x2)),.c (.v (.int .u64 x3)),.c (.v (.int .i64 x4)),.c (.v (.int .i64 x5)),.c (.v (.bool x6)),.c (.v (.int .i64 x7)),.c (.v (.int .i64 x8)),.c (.v (.string x9)),.c (.sl 3 x10 none),.c (.sl 5 x11 none),.c (.v (.int .i64 x12)),.c (.sl 1 x13 none)]),(11000,.blk 0 [.t 11001000000 0 (O.len j9)]),(11001000000,.arr 0 1 j9 none false)],1⟩)) ∧ p43_2 False fu K0 x12 x13 j9) (fun hc4 h L hL_2 => ?_) (fun hc4 h L hL_2 => ?_) ?_
 conv => cbv
 refine z0c hO [.ref 1,.shut] (d_p64 fu O.len hN h) ?_
 intro os Q hos hQ
 conv => cbv
 refine ⟨(by subst hO; exact Nat.le_refl _),?_⟩
 refine ⟨(by (rw [hos]) <;> (subst hO; rfl)),?_⟩
 intro r bs hq
 rw [hQ] at hq
 clear hos hQ h
 obtain ⟨y16,_,⟨rfl,rfl⟩,h⟩ := hq
 conv => cbv
 exact hL_2 _ _ ⟨y16,⟨(by (conv => lhs; cbv) <;> (subst hO; rfl)),(by (conv => lhs; cbv) <;> (subst hO; rfl))⟩,h⟩
 conv => cbv
 exact hL_2 _ _ ⟨y8,⟨(by (conv => lhs; cbv) <;> (subst hO; rfl)),(by (conv => lhs; cbv) <;> (subst hO; rfl))⟩,h⟩
 rintro tm m ⟨j9,hs,h⟩
 unfold p43_2 at h
 obtain ⟨rfl,rfl⟩ := hs
 conv => cbv
 have hz := z0u h
 have hc3 := hz.1
 replace h := hz.2
 clear hz
 refine z0c hO [.ref 1,.shut] (d_p83 fu O.len hN h) ?_
 intro os Q hos hQ
 conv => cbv
 refine ⟨(by subst hO; exact Nat.le_refl _),?_⟩
 refine z0r hO (by subst hO; exact hc3) ?_
 conv => cbv
 refine ⟨(by (rw [hos]) <;> (subst hO; rfl)),?_⟩
 intro r bs hq
 rw [hQ] at hq
 clear hos hQ h
 obtain ⟨y10,_,⟨rfl,rfl⟩,h⟩ := hq
 conv => cbv
 refine z0s hO tiA [5,64,65,66] [11000,11001000000] [] (fun (n : Nat) tm m => ∃ (z11 : EL) (z12 : Int) (z13 : Int),((tm = frame 0 79 [(5,.p 11000 0 0),(64,.c (.sl 1 x13 none)),(65,.c (.v (.int .i64 z12))),(66,.c (.v (.int .i64 z13)))] ∧ m = ⟨[(11000,.blk 0 [.t 11001000000 0 (O.len z11)]),(11001000000,.arr 0 1 z11 none false)],1⟩)) ∧ p43_1L False fu K0 x13 n z11 z12 z13) (fun n => n) fu ⟨y10,((x13.length : Nat) : Int),0,⟨(by (conv => lhs; cbv) <;> (subst hO; rfl)),(by (conv => lhs; cbv) <;> (subst hO; rfl))⟩,h⟩ ?_
 rintro n1 tm m L ⟨z11,z12,z13,hs,h⟩ hLn1
 (cases n1 with
 | zero => rw [p43_1L] at h; exact h.elim
 | succ n1 =>
 rw [p43_1L] at h
 unfold p43_1 at h
 obtain ⟨rfl,rfl⟩ := hs
 conv => cbv
 refine br_h hO h (by subst hO; rfl) (fun hc1 h => ?_) (fun hc1 h => ?_)
 conv => cbv
 refine z0b hO ?_
 conv => cbv
 refine and_h h (fun g => (by subst hO; exact g)) (fun h => ?_)
 refine and_h h (fun g => (by subst hO; exact g)) (fun h => ?_)
 obtain ⟨c14,hr,h⟩ := z6c h
 refine z0o hO _ (by subst hO; exact hr) ?_
 clear hr
 conv => cbv
 have hz := z0u h
 have hc2 := hz.1
 replace h := hz.2
 clear hz
 refine z0c hO [.ref 1,.shut] (d_p87 fu O.len hN h) ?_
 intro os Q hos hQ
 conv => cbv
 refine ⟨(by subst hO; exact Nat.le_refl _),?_⟩
 refine z0r hO (by subst hO; exact hc2) ?_
 conv => cbv
 refine ⟨(by (rw [hos]) <;> (subst hO; rfl)),?_⟩
 intro r bs hq
 rw [hQ] at hq
 clear hos hQ h
 obtain ⟨y15,_,⟨rfl,rfl⟩,h⟩ := hq
 conv => cbv
 exact hLn1 n1 _ _ (Nat.lt_succ_self n1) ⟨y15,z12,z0d .add .i64 z13 1,⟨(by (conv => lhs; cbv) <;> (subst hO; rfl)),(by (conv => lhs; cbv) <;> (subst hO; rfl))⟩,h⟩
 conv => cbv
 refine ⟨(by subst hO; exact Nat.le_refl _),?_⟩
 rw [hQ]
 exact ⟨z11,_,_,⟨(by subst hO; rfl),(by subst hO; rfl)⟩,h⟩)
theorem w2s : ∀ (m v : Nat), lowB (m + 1) v = UInt8.ofNat (v / 256 ^ m % 256) :: lowB m v
 | 0, v => by simp [lowB]
 | m + 1, v => by
  rw [lowB, w2s m (v / 256)]
  rw [Nat.div_div_eq_div_mul, show 256 * 256 ^ m = 256 ^ (m + 1) by rw [Nat.pow_succ, Nat.mul_comm]]
  rw [List.cons_append]
  congr 1
theorem w9p (n : Nat) : UInt8.ofNat n = UInt8.ofNat (n % 256) := by
 apply UInt8.toNat_inj.1; simp
theorem w3l {ρ : Type} (fail : ρ) (fu : Nat) (K : EL → ρ) (v : Nat) : ∀ (m n : Nat) (z : EL), m ≤ 8 → m < n → z.length + m ≤ 35184372088832 → p84_1L fail fu K (v : Nat) n z ((8 * m : Nat) - 8 : Int) = K (z ++ encB (lowB m v)) := by
 intro m
 induction m with
 | zero =>
  intro n z _ hn _
  obtain ⟨n, rfl⟩ : ∃ n', n = n' + 1 := ⟨n - 1, by omega⟩
  rw [p84_1L, p84_1, geqF (by omega), cond_false]; simp [lowB]
 | succ m ih =>
  intro n z hm hn hz
  obtain ⟨n, rfl⟩ : ∃ n', n = n' + 1 := ⟨n - 1, by omega⟩
  have e0 : ((8 * (m + 1) : Nat) - 8 : Int) = ((8 * m : Nat) : Int) := by omega
  have e1 : IntKind.u64.wrap ((8 * m : Nat) : Int) = ((8 * m : Nat) : Int) := z3u _ (by omega)
  have e2 : z0d .shr .u64 ((v : Nat) : Int) ((8 * m : Nat) : Int) = ((v / 256 ^ m : Nat) : Int) := by
   show ((v : Nat) : Int).fdiv (2 ^ (min (((8 * m : Nat) : Int)).toNat 64)) = _
   have : min (((8 * m : Nat) : Int)).toNat 64 = 8 * m := by rw [Int.toNat_natCast]; omega
   rw [this, k0e _ _ (Int.le_of_lt (Int.pow_pos (by decide)))]
   have h2 : (2 : Int) ^ (8 * m) = ((256 ^ m : Nat) : Int) := by
    rw [show (256 : Nat) = 2 ^ 8 from rfl, ← Nat.pow_mul, Int.natCast_pow]; rfl
   rw [h2]; rfl
  rw [e0, p84_1L, p84_1, geqT (by omega), cond_true, e1, gd_y (by omega), gd_y (by simp), gd_y (by simp; omega), e2, subZ (by omega) (by omega)]
  have := ih n (z ++ List.take 1 [[CV.v (.int .u8 (IntKind.u8.wrap ((v / 256 ^ m : Nat) : Int)))]]) (by omega) (by omega) (by simp; omega)
  rw [this, List.append_assoc, w2s, ← w9p]
  refine congrArg (fun q => K (z ++ q)) ?_
  show [[CV.v (.int .u8 (IntKind.u8.wrap ((v / 256 ^ m : Nat) : Int)))]] ++ _ = _
  rw [w4u, ← z1r]; rfl
theorem k0i {ρ : Type} (fail : ρ) (fu : Nat) (hf : 10 ≤ fu) (K : EL → ρ) (v : Nat) (z : EL) (hz : z.length + 16 ≤ 35184372088832) : p84 fail fu K z (v : Nat) = K (z ++ encB (lowB 8 v)) := by
 have e0 : ∀ y : EL, List.replicate (Int.toNat 0) [CV.v (.int .u8 0)] ++ y = y := fun _ => rfl
 rw [p84, p120, addZ (by omega) (by omega), gd_y (by omega), gd_y (by omega), gd_y (by omega), gd_y (by decide), gd_y (by simp; omega), e0]
 exact w3l fail fu K v 8 fu z (by omega) (by omega) (by omega)
theorem k2u {ρ : Type} (fail : ρ) (fu : Nat) (hf : 11 ≤ fu) (K : EL → ρ) (b : Bool) (z : EL) (hz : z.length + 10 ≤ 35184372088832) : p85 fail fu K z b = K (z ++ encB (varB (if b = true then 1 else 0))) := by
 cases b with
 | true => rw [p85, cond_true, gd_y (by simp), z7k fail fu hf _ 1 z hz, p85_1]; rfl
 | false => rw [p85, cond_false, gd_y (by simp), z7k fail fu hf _ 0 z hz, p85_1]; rfl
theorem ax_w {ρ : Type} (fail : ρ) (fu : Nat) (K : EL → ρ) (l : List ByteArray) (hfu : axSz l + 20 ≤ fu) (hsz : axSz l < 1099511627776) :
  ∀ (r i n : Nat) (z : EL), i + r = l.length → r < n → z.length + (axB (l.drop i)).length ≤ 35184372087000 → p43_1L fail fu K (l.map z1y) n z ((l.length : Nat) : Int) ((i : Nat) : Int) = K (z ++ encB (axB (l.drop i))) := by
 have hl := w1j l
 intro r
 induction r with
 | zero =>
  intro i n z hi hn hz
  obtain ⟨n, rfl⟩ : ∃ m, n = m + 1 := ⟨n - 1, by omega⟩
  rw [p43_1L, p43_1, lssF (by omega), cond_false, List.drop_eq_nil_of_le (by omega)]
  simp [axB]
 | succ r ih =>
  intro i n z hi hn hz
  obtain ⟨n, rfl⟩ : ∃ m, n = m + 1 := ⟨n - 1, by omega⟩
  have hlt : i < l.length := by omega
  have hm := w6r (List.getElem_mem hlt)
  have hd : l.drop i = l[i] :: l.drop (i + 1) := List.drop_eq_getElem_cons hlt
  rw [hd] at hz ⊢
  simp only [axB, List.length_append] at hz ⊢
  have htx : (txB l[i]).length = (varB l[i].size).length + l[i].size := by simp [txB, z2q]
  have h10 := z0w (show l[i].size < 2 ^ 64 by omega)
  rw [p43_1L, p43_1, lssT (by omega), cond_true, gd_y (by omega), gd_y (by rw [List.length_map]; omega), w4c fail l i hlt, gsz, k2l fail fu (by omega) _ _ z (by omega) (by omega), addZ (by omega) (by omega), show ((i : Nat) : Int) + 1 = ((i + 1 : Nat) : Int) by omega]
  rw [ih (i + 1) n _ (by omega) (by omega) (by simp only [List.length_append, z0f]; omega)]
  simp [List.append_assoc]
theorem k1c {ρ : Type} (fail : ρ) (fu : Nat) (K : EL → ρ) (b : List UInt8) (hb : b.length ≤ 35184372088832) : p63 fail fu K (encB b) = K (encB b) := by
 rw [p63, gd_y (by rfl), gd_y (by rw [z0f]; simp; omega)]; rfl
theorem put_w {ρ : Type} (fail : ρ) (fu : Nat) (K : EL → ρ) (err : Int) (hi lo : Nat) (fuel cells : Int) (yes : Bool) (t : Tm) (pa : Int) (ax : List ByteArray) (ht1 : t.sz + 60 ≤ fu) (ht2 : t.sz < 1099511627776) (ha1 : axSz ax + 60 ≤ fu) (ha2 : axSz ax < 1099511627776)
  (hz : (rpEnc err hi lo fuel cells yes t pa ax).length ≤ 35184372086000) : p43 fail fu K nilE err (hi : Nat) (lo : Nat) fuel cells yes t.k t.n t.nm (Lv.rows t.ls) (Tm.rows t.args) pa (ax.map z1y) = K (encB (rpEnc err hi lo fuel cells yes t pa ax)) := by
 have hal := w1j ax
 have u1 := z0w (uv_lt err)
 have u2 := z0w (uv_lt fuel)
 have u3 := z0w (uv_lt cells)
 have u4 := z0w (uv_lt pa)
 have u5 := z0w (show ax.length < 2 ^ 64 by omega)
 have l1 := z6m 8 hi
 have l2 := z6m 8 lo
 have hv1 : (varB 1).length = 1 := by rw [z5n (by omega)]; rfl
 have hv0 : (varB 0).length = 1 := by rw [z5n (by omega)]; rfl
 have hy : (varB (if yes = true then 1 else 0)).length = 1 := by split <;> assumption
 have hg : uv ((ax.length : Nat) : Int) = ax.length := z3i _ (by omega)
 simp only [rpEnc, List.length_append] at hz
 have tail : ∀ y : EL, y.length + (varB (uv pa)).length + (varB ax.length).length + (axB ax).length ≤ 35184372086900 → p43_2 fail fu K pa (ax.map z1y) y = K (y ++ encB (varB (uv pa) ++ (varB ax.length ++ axB ax))) := fun y hy => by
  have h2 : List.take 2 [[CV.v (.int .i64 pa)], [CV.v (.int .i64 (((ax.map z1y).length : Nat) : Int))]] = encI [pa, ((ax.length : Nat) : Int)] := by rw [List.length_map]; rfl
  have := ax_w fail fu K ax (by omega) ha2 ax.length 0 fu (y ++ encB (varB (uv pa) ++ varB ax.length)) (by omega) (by omega) (by simp only [List.length_append, z0f, List.drop_zero]; omega)
  rw [show ((0 : Nat) : Int) = 0 from rfl] at this
  rw [p43_2, gd_y (by simp), h2, num_w fail fu _ _ (by simp only [List.length_cons, List.length_nil]; omega) y (by simp only [List.length_cons, List.length_nil]; omega), List.length_map]
  simp only [z1u, show numsB [] = [] from rfl, List.append_nil, hg]
  rw [this, List.drop_zero]
  simp [List.append_assoc]
 have h2 : List.take 2 [[CV.v (.int .i64 fuel)], [CV.v (.int .i64 cells)]] = encI [fuel, cells] := rfl
 have e0 : (nilE : EL) = encB [] := rfl
 have hz1 := fun K => w5m (ρ := ρ) fail fu (by omega) K t
 rw [p43, e0, k1c _ _ _ _ (by simp), gd_y (by simp), z7k fail fu (by omega) _ err _ (by simp), k0i fail fu (by omega) _ hi _ (by simp only [List.length_append, z0f, List.length_nil]; omega), k0i fail fu (by omega) _ lo _ (by simp only [List.length_append, z0f, List.length_nil]; omega), gd_y (by simp), h2,
  num_w fail fu _ _ (by simp only [List.length_cons, List.length_nil]; omega) _ (by simp only [List.length_append, z0f, List.length_cons, List.length_nil]; omega), k2u fail fu (by omega) _ yes _ (by simp only [List.length_append, z0f, z1u, show numsB [] = [] from rfl, List.length_nil]; omega), ← e0, hz1, k2u fail fu (by omega) _ _ _ (by simp only [List.length_append, z0f, z1u, show numsB [] = [] from rfl, List.length_nil]; omega)]
 by_cases c : isZ t = true
 ·rw [if_pos c] at hz
  rw [c, Bool.not_true, cond_false, show (if false = true then 1 else 0 : Nat) = 0 from rfl, tail _ (by simp only [List.length_append, z0f, z1u, show numsB [] = [] from rfl, List.length_nil]; omega)]
  simp [rpEnc, c, z1u, show numsB [] = [] from rfl, List.append_assoc]
 ·rw [if_neg c] at hz
  simp only [List.length_append] at hz
  have c' : isZ t = false := Bool.eq_false_iff.2 c
  rw [c', Bool.not_false, cond_true, show (if true = true then 1 else 0 : Nat) = 1 from rfl, term_w fail _ t (Nat.le_refl _) fu _ _ (by omega) ht2 (by simp only [List.length_append, z0f, z1u, show numsB [] = [] from rfl, List.length_nil]; omega), tail _ (by simp only [List.length_append, z0f, z1u, show numsB [] = [] from rfl, List.length_nil]; omega)]
  simp [rpEnc, c', z1u, show numsB [] = [] from rfl, List.append_assoc]
theorem z7j (v : Nat) (h : v < 2 ^ 64) (r : List UInt8) : z3w (lowB 8 v ++ r) = .ok (v, r) := by
 have hl := z6m 8 v
 unfold z3w
 rw [if_neg (by rw [List.length_append]; omega)]
 have h1 : (lowB 8 v ++ r).take 8 = lowB 8 v := by rw [← hl]; exact List.take_left
 have h2 : (lowB 8 v ++ r).drop 8 = r := by rw [← hl]; exact List.drop_left
 rw [h1, h2, be_lowB 8 v (Nat.lt_of_lt_of_le h (by decide))]
theorem w7j (l : List ByteArray) (h : ∀ s ∈ l, s.size ≤ 24) (p : Nat) (r : List UInt8) : many z6h l.length p (axB l ++ r) = .ok (l, r, p) := by
 have := z4x (f := z6h) (g := txB) (gs := axB) (c := fun _ => 0) (cs := fun _ => 0) rfl (fun _ _ => rfl) rfl (fun _ _ => rfl) (m := p) l p r (fun a ha p r _ => by
  unfold z6h; rw [z9z 24 a (h a ha) (by omega)]; dsimp only; rw [k0w]; rfl) (by omega)
 simpa using this
theorem w8w (pa : Nat) (hpa : pa ≤ 1073741824) (l : List ByteArray) (h : ∀ s ∈ l, s.size ≤ 24) (hl : l.length ≤ 65536) (m : List UInt8) : rdR5 (varB pa ++ (varB l.length ++ axB l) ++ m) = if m.length = 0 then some (pa, l) else none := by
 unfold rdR5
 rw [List.append_assoc, z2c pa hpa]
 dsimp only
 rw [List.append_assoc, z2c _ (by omega)]
 dsimp only
 rw [if_neg (by omega), w7j l h]
theorem w7f (err hi lo fuel cells : Nat) (h1 : err ≤ 1073741824) (h2 : hi < 2 ^ 64) (h3 : lo < 2 ^ 64) (h4 : fuel ≤ 1073741824) (h5 : cells ≤ 1073741824) (yes : Bool) (t : Tm) (ht : t.good 100) (htp : t.parts ≤ 2000) (pa : Nat) (h6 : pa ≤ 1073741824) (ax : List ByteArray) (h7 : ∀ s ∈ ax, s.size ≤ 24) (h8 : ax.length ≤ 65536) :
  rdRep (rpEnc (err : Nat) hi lo (fuel : Nat) (cells : Nat) yes t (pa : Nat) ax) = some ⟨(err : Nat), (hi : Nat), (lo : Nat), (fuel : Nat), (cells : Nat), yes, t, (pa : Nat), ax⟩ := by
 unfold rdRep
 have hy : (if yes = true then 1 else 0) ≤ 1 := by split <;> omega
 have r5 := w8w pa h6 ax h7 h8 []
 rw [List.append_nil] at r5
 simp only [rpEnc, z3i err (by omega), z3i fuel (by omega), z3i cells (by omega), z3i pa (by omega)]
 rw [z2c err h1]; simp only [opt]
 rw [z7j hi h2]; dsimp only
 rw [z7j lo h3]; dsimp only
 rw [z2c fuel h4]; dsimp only
 rw [z2c cells h5]; dsimp only
 rw [z2z 0 1 _ (by omega) hy (by omega)]; dsimp only
 have hyb : decide ((if yes = true then 1 else 0) = 1) = yes := by cases yes <;> rfl
 by_cases c : isZ t = true
 ·rw [if_pos c, z2z 0 1 0 (by omega) (by omega) (by omega)]; dsimp only
  unfold rdR6
  rw [if_neg (by omega), r5, hyb, (isZ_iff t).1 c]; rfl
 ·rw [if_neg c, List.append_assoc, z2z 0 1 1 (by omega) (by omega) (by omega)]; dsimp only
  unfold rdR6
  rw [if_pos rfl, w4j t ht htp]
  dsimp only
  rw [if_neg c, r5, hyb]; rfl
def p41_1 {ρ : Type} (fail : ρ) (fu : Nat) (K0 : Bool → ρ) (j16 : Bool) : ρ :=
 K0 j16
def p41 {ρ : Type} (fail : ρ) (fu : Nat) (K0 : Bool → ρ) : ρ :=
 p43 fail fu (fun y1 => p45 fail fu (fun y2 y3 y4 y5 y6 y7 y8 y9 y10 y11 y12 y13 y14 y15 => bif (z0a .eql ((y1.length : Nat) : Int) 23) then (gd ((0 : Int) ≤ 0) fail (gd ((0 : Int) < (y1.length : Nat)) fail (gd (((0 : Int).toNat) + 1 ≤ y1.length) fail (rw_u8 fail (List.getD y1 ((0 : Int).toNat) []) (fun c17 => bif (z0a .eql c17 3) then (bif (z0a .eql y15 0) then (p41_1 fail fu K0 (z0a .eql y2 3)) else (p41_1 fail fu K0 false)) else (p41_1 fail fu K0 false)))))) else (p41_1 fail fu K0 false)) y1) nilE 3 0 0 0 0 false 0 0 ⟨#[]⟩ nilE nilE 0 nilE
theorem d_p41 (fu : Nat) {K0 : Bool → Prop} (L : EL → Nat) (hN : L = List.length) (h : p41 False fu K0 ) : Den Try.prog G0 41 [] (fun r bs => (∃ (y0 : Bool),(r = .c (.v (.bool y0)) ∧ bs = []) ∧ K0 y0)) := by
 obtain ⟨O,hO⟩ : ∃ O,O = std 0 T G0 (Den Try.prog G0) := ⟨_,rfl⟩
 have hLO : L = O.len := by rw [hN,hO]; rfl
 subst hLO
 refine den_h hO tiA mixed tabOk (fn := Try.f41) (sh := true) (by kernel_rfl) rfl rfl rfl rfl ?_
 intro Q hQ
 unfold p41 at h
 conv => cbv
 refine z0c hO [.shut,.shut] (d_p43 fu O.len hN h) ?_
 intro os Q hos hQ
 conv => cbv
 refine ⟨(by (rw [hos]) <;> (subst hO; rfl)),?_⟩
 intro r bs hq
 rw [hQ] at hq
 clear hos hQ h
 obtain ⟨y1,_,_,⟨rfl,rfl⟩,h⟩ := hq
 conv => cbv
 refine alt_l hO ?_
 conv => cbv
 refine z0c hO [.shut] (d_p45 fu O.len hN h) ?_
 intro os Q hos hQ
 conv => cbv
 refine z0m hO ?_
 conv => cbv
 refine ⟨(by (rw [hos]) <;> (subst hO; rfl)),?_⟩
 intro r bs hq
 rw [hQ] at hq
 clear hos hQ h
 obtain ⟨y2,y3,y4,y5,y6,y7,y8,y9,y10,y11,y12,y13,y14,y15,_,⟨rfl,rfl⟩,h⟩ := hq
 conv => cbv
 refine z0l hO tiA [0] [] [] (fun tm m => ∃ (j16 : Bool),((tm = frame 0 29 [(0,.c (.v (.bool j16)))] ∧ m = ⟨[],1⟩)) ∧ p41_1 False fu K0 j16) (fun L hL_1 => ?_) ?_
 conv => cbv
 refine alt_l hO ?_
 conv => cbv
 refine br_h hO h (by subst hO; rfl) (fun hc1 h => ?_) (fun hc1 h => ?_)
 conv => cbv
 refine br_t hO hc1 ?_
 conv => cbv
 refine ⟨(by subst hO; exact Nat.le_refl _),?_⟩
 refine and_h h (fun g => (by subst hO; exact g)) (fun h => ?_)
 refine and_h h (fun g => (by subst hO; exact g)) (fun h => ?_)
 refine br_t hO hc1 ?_
 conv => cbv
 refine and_h h (fun g => (by subst hO; exact g)) (fun h => ?_)
 obtain ⟨c17,hr,h⟩ := z3y h
 refine z0o hO _ (by subst hO; exact hr) ?_
 clear hr
 conv => cbv
 refine br_t hO hc1 ?_
 conv => cbv
 refine br_t hO hc1 ?_
 conv => cbv
 refine br_h hO h (by subst hO; rfl) (fun hc2 h => ?_) (fun hc2 h => ?_)
 conv => cbv
 refine br_t hO hc2 ?_
 conv => cbv
 refine br_t hO hc2 ?_
 conv => cbv
 refine br_h hO h (by subst hO; rfl) (fun hc3 h => ?_) (fun hc3 h => ?_)
 conv => cbv
 refine br_t hO hc3 ?_
 conv => cbv
 refine br_t hO hc3 ?_
 conv => cbv
 refine br_t hO hc3 ?_
 conv => cbv
 exact hL_1 _ _ ⟨(z0a .eql y2 3),⟨(by (conv => lhs; cbv) <;> (subst hO; rfl)),(by (conv => lhs; cbv) <;> (subst hO; rfl))⟩,h⟩
 conv => cbv
 refine br_f hO hc3 ?_
 conv => cbv
 refine br_f hO hc3 ?_
 conv => cbv
 refine br_f hO hc3 ?_
 conv => cbv
 exact hL_1 _ _ ⟨false,⟨(by (conv => lhs; cbv) <;> (subst hO; rfl)),(by (conv => lhs; cbv) <;> (subst hO; rfl))⟩,h⟩
 conv => cbv
 refine br_f hO hc2 ?_
 conv => cbv
 refine br_f hO hc2 ?_
 conv => cbv
 refine br_f hO rfl ?_
 conv => cbv
 refine br_f hO rfl ?_
 conv => cbv
 refine br_f hO rfl ?_
 conv => cbv
 refine br_f hO rfl ?_
 conv => cbv
 exact hL_1 _ _ ⟨false,⟨(by (conv => lhs; cbv) <;> (subst hO; rfl)),(by (conv => lhs; cbv) <;> (subst hO; rfl))⟩,h⟩
 conv => cbv
 refine br_f hO hc1 ?_
 conv => cbv
 refine br_f hO hc1 ?_
 conv => cbv
 refine br_f hO hc1 ?_
 conv => cbv
 refine br_f hO hc1 ?_
 conv => cbv
 refine br_f hO rfl ?_
 conv => cbv
 refine br_f hO rfl ?_
 conv => cbv
 refine br_f hO rfl ?_
 conv => cbv
 refine br_f hO rfl ?_
 conv => cbv
 refine br_f hO rfl ?_
 conv => cbv
 refine br_f hO rfl ?_
 conv => cbv
 refine br_f hO rfl ?_
 conv => cbv
 exact hL_1 _ _ ⟨false,⟨(by (conv => lhs; cbv) <;> (subst hO; rfl)),(by (conv => lhs; cbv) <;> (subst hO; rfl))⟩,h⟩
 rintro tm m ⟨j16,hs,h⟩
 unfold p41_1 at h
 obtain ⟨rfl,rfl⟩ := hs
 conv => cbv
 rw [hQ]
 exact ⟨j16,⟨(by subst hO; rfl),(by subst hO; rfl)⟩,h⟩
mutual
theorem Lv.enc_sz : ∀ l : Lv, l.enc.length ≤ 20 * l.sz
 | .mk k n l => by
  have := Lv.encs_sz l
  have h1 := z0w (uv_lt k)
  have h2 := z0w (uv_lt n)
  have h3 : (if k = 4 then varB (uv n) else []).length ≤ 10 := by
   split
   ·exact h2
   ·exact Nat.zero_le _
  simp only [Lv.sz, Lv.enc, List.length_append]; omega
theorem Lv.encs_sz : ∀ l : List Lv, (Lv.encs l).length ≤ 20 * Lv.szs l
 | [] => Nat.zero_le _
 | a :: l => by
  have := Lv.enc_sz a
  have h2 := Lv.encs_sz l
  simp only [Lv.szs, Lv.encs, List.length_append]; omega
end
mutual
theorem Tm.enc_sz : ∀ t : Tm, t.sz < 1099511627776 → t.enc.length ≤ 40 * t.sz
 | .mk k n s l a, h => by
  simp only [Tm.sz] at h
  have := Tm.encs_sz a (by omega)
  have h0 := Lv.encs_sz l
  have hl := Lv.szs_len l
  have h1 := z0w (uv_lt k)
  have h2 := z0w (uv_lt n)
  have h4 := z0w (show s.size < 2 ^ 64 by omega)
  have h5 := z0w (show l.length < 2 ^ 64 by omega)
  have h3 : (if k = 0 then varB (uv n) else if k = 2 then txB s ++ varB l.length else []).length ≤ 20 + s.size := by
   split
   ·omega
   ·split
    ·simp only [txB, List.length_append, z2q]; omega
    ·simp
  simp only [Tm.sz, Tm.enc, List.length_append]; omega
theorem Tm.encs_sz : ∀ l : List Tm, Tm.szs l < 1099511627776 → (Tm.encs l).length ≤ 40 * Tm.szs l
 | [], _ => Nat.zero_le _
 | a :: l, h => by
  simp only [Tm.szs] at h
  have := Tm.enc_sz a (by omega)
  have h2 := Tm.encs_sz l (by omega)
  simp only [Tm.szs, Tm.encs, List.length_append]; omega
end
theorem w6q : ∀ (l : List ByteArray), (∀ s ∈ l, s.size ≤ 24) → axSz l ≤ 25 * l.length ∧ (axB l).length ≤ 34 * l.length
 | [], _ => ⟨Nat.le_refl _, Nat.le_refl _⟩
 | s :: l, h => by
  obtain ⟨h1, h2⟩ := w6q l fun x hx => h x (by simp [hx])
  have h3 := h s (by simp)
  have h4 := z0w (show s.size < 2 ^ 64 by omega)
  simp only [axSz, axB, List.length_append, List.length_cons, txB, z2q]; omega
def p14 {ρ : Type} (fail : ρ) (fu : Nat) (K0 : EL → Int → ρ) (x0 : EL) : ρ :=
 K0 x0 0
def p12_1 {ρ : Type} (fail : ρ) (fu : Nat) (K0 : Bool → ρ) (j47 : Bool) : ρ :=
 K0 j47
def p12_2 {ρ : Type} (fail : ρ) (fu : Nat) (K0 : Bool → ρ) (rec1 : EL → Int → ρ) (x1 : Int) (x2 : EL) (y5 y6 : Int) (y7 : ByteArray) (y8 y9 z13 : EL) (z14 : Int) : ρ :=
 bif (z0a .lss z14 ((x2.length : Nat) : Int)) then (gd ((0 : Int) ≤ z14) fail (gd ((z14 : Int) < (x2.length : Nat)) fail (rw_u8 fail (List.getD x2 ((z14 : Int).toNat) []) (fun c15 => gd ((26 : Int) ≠ 0) fail (gd (1 ≤ [[(CV.v (.int .u8 (z0d .add .u8 97 (z0d .rem .u8 c15 26))))]].length) fail (tobP fail (List.take 1 [[(CV.v (.int .u8 (z0d .add .u8 97 (z0d .rem .u8 c15 26))))]]) (fun s16 => gd (1 ≤ [[(CV.v (.string s16))]].length) fail (gd ((z13.length + (List.take 1 [[(CV.v (.string s16))]]).length) * 16 ≤ 35184372088832) fail (rec1 (z13 ++ (List.take 1 [[(CV.v (.string s16))]])) (z0d .add .i64 z14 1)))))))))) else (p43 fail fu (fun y17 => p45 fail fu (fun y18 y19 y20 y21 y22 y23 y24 y25 y26 y27 y28 y29 y30 y31 => gd (0 ≤ nilE.length) fail (p43 fail fu (fun y32 => p45 fail fu (fun y33 y34 y35 y36 y37 y38 y39 y40 y41 y42 y43 y44 y45 y46 => bif (z0a .eql y31 0) then (bif (z0a .eql y46 0) then (p47 fail fu (fun y48 => bif y48 then (p47 fail fu (fun y49 => p12_1 fail fu K0 y49) y33 y34 y35 y36 y37 y38 y39 y40 y41 y42 y43 y44 y45 (IntKind.i64.wrap x1) 0 0 0 0 false 0 0 ⟨#[]⟩ nilE nilE 0 nilE) else (p12_1 fail fu K0 false)) y18 y19 y20 y21 y22 y23 y24 y25 y26 y27 y28 y29 y30 0 0 0 0 0 false y5 y6 y7 y8 y9 0 z13) else (p12_1 fail fu K0 false)) else (p12_1 fail fu K0 false)) y32) (List.take 0 nilE) (IntKind.i64.wrap x1) 0 0 0 0 false 0 0 ⟨#[]⟩ nilE nilE 0 nilE)) y17) nilE 0 0 0 0 0 false y5 y6 y7 y8 y9 0 z13)
def p12_2L {ρ : Type} (fail : ρ) (fu : Nat) (K0 : Bool → ρ) (x1 : Int) (x2 : EL) (y5 y6 : Int) (y7 : ByteArray) (y8 y9 : EL) : Nat → EL → Int → ρ
 | 0,_,_ => fail
 | n + 1,z13,z14 => p12_2 fail fu K0 (p12_2L fail fu K0 x1 x2 y5 y6 y7 y8 y9 n) x1 x2 y5 y6 y7 y8 y9 z13 z14
def p12_3 {ρ : Type} (fail : ρ) (fu : Nat) (K0 : Bool → ρ) (x0 : EL) (x1 : Int) (x2 : EL) (j2 : Bool) : ρ :=
 bif j2 then (K0 true) else (p14 fail fu (fun y3 y4 => p15 fail fu (fun y5 y6 y7 y8 y9 y10 y11 => p16 fail fu (fun y12 => bif (!y12) then (K0 true) else (p12_2L fail fu K0 x1 x2 y5 y6 y7 y8 y9 fu nilE 0)) y5 y6 y7 y8 y9) y3 y4) x0)
def p12 {ρ : Type} (fail : ρ) (fu : Nat) (K0 : Bool → ρ) (x0 : EL) (x1 : Int) (x2 : EL) : ρ :=
 p41 fail fu (fun y1 => bif (!y1) then (K0 false) else (bif (z0a .gtr ((x0.length : Nat) : Int) 40) then (p12_3 fail fu K0 x0 x1 x2 true) else (p12_3 fail fu K0 x0 x1 x2 (z0a .gtr ((x2.length : Nat) : Int) 20)))) 
theorem k0v (m : Nat) (K : Bool → Prop) : p41 (ρ := Prop) False (m + 3000) K = K true := by kernel_rfl
theorem z5x (m : Nat) (K : Bool → Prop) : p41 (ρ := Prop) False (m + 2000000) K = K true := k0v (m + 1997000) K
theorem w8t (err : Nat) (hi lo : Nat) (fuel cells : Nat) (yes : Bool) (t : Tm) (pa : Nat) (ax : List ByteArray) (hax : ax.length ≤ 1024) (ht : t.enc.length ≤ 500000000) (ha : (axB ax).length ≤ 100000) : (rpEnc (err : Nat) hi lo (fuel : Nat) (cells : Nat) yes t (pa : Nat) ax).length ≤ 1000000000 := by
 have u1 := z0w (uv_lt ((err : Nat) : Int))
 have u2 := z0w (uv_lt ((fuel : Nat) : Int))
 have u3 := z0w (uv_lt ((cells : Nat) : Int))
 have u4 := z0w (uv_lt ((pa : Nat) : Int))
 have u5 := z0w (show ax.length < 2 ^ 64 by omega)
 have hv1 : (varB 1).length ≤ 10 := z0w (by omega)
 have hv0 : (varB 0).length ≤ 10 := z0w (by omega)
 have hy : (varB (if yes = true then 1 else 0)).length ≤ 10 := by split <;> assumption
 have hif : (if isZ t = true then varB 0 else varB 1 ++ t.enc).length ≤ 10 + t.enc.length := by
  split
  ·omega
  ·rw [List.length_append]; omega
 simp only [rpEnc, List.length_append, z6m]; omega
theorem z8j {ρ : Type} (fail : ρ) (fu : Nat) (hf : 2000000 ≤ fu) (K : RK14 ρ) (err hi lo fuel cells : Nat) (h1 : err ≤ 1073741824) (h2 : hi < 2 ^ 64) (h3 : lo < 2 ^ 64) (h4 : fuel ≤ 1073741824) (h5 : cells ≤ 1073741824) (yes : Bool) (t : Tm) (tg : t.good 100) (tp : t.parts ≤ 2000) (pa : Nat) (h6 : pa ≤ 1073741824) (ax : List ByteArray) (axs : ∀ s ∈ ax, s.size ≤ 24) (hax : ax.length ≤ 1024) :
  p43 fail fu (fun y => p45 fail fu K y) nilE (err : Nat) (hi : Nat) (lo : Nat) (fuel : Nat) (cells : Nat) yes t.k t.n t.nm (Lv.rows t.ls) (Tm.rows t.args) (pa : Nat) (ax.map z1y) =
   K (err : Nat) (hi : Nat) (lo : Nat) (fuel : Nat) (cells : Nat) yes t.k t.n t.nm (Lv.rows t.ls) (Tm.rows t.args) (pa : Nat) (ax.map z1y) 0 := by
 have tsz := w4q 100 t tg
 obtain ⟨ax1, ax2⟩ := w6q ax axs
 have tenc := Tm.enc_sz t (by omega)
 have hE := w8t err hi lo fuel cells yes t pa ax hax (by omega) (by omega)
 have hback := w7f err hi lo fuel cells (by omega) h2 h3 (by omega) (by omega) yes t tg tp pa (by omega) ax axs (by omega)
 have hput := fun K => put_w (ρ := ρ) fail fu K (err : Nat) hi lo (fuel : Nat) (cells : Nat) yes t (pa : Nat) ax (by omega) (by omega) (by omega) (by omega) (by omega)
 generalize hEE : rpEnc (err : Nat) hi lo (fuel : Nat) (cells : Nat) yes t (pa : Nat) ax = E at hE hback hput
 have t1 := take_eq (ρ := ρ) fail fu (by omega) E (by omega)
 rw [hback] at t1
 rw [hput]
 exact t1 K
theorem k2g (z : Int) : ∃ c : UInt8, [[CV.v (.int .u8 (IntKind.u8.wrap z))]] = encB [c] := by
 refine ⟨UInt8.ofNat (z % 256).toNat, ?_⟩
 have h : (UInt8.ofNat (z % 256).toNat).toNat = (z % 256).toNat := by
  rw [UInt8.toNat_ofNat']; omega
 rw [z9c, h, IntKind.wrap_u8, show (((z % 256).toNat : Nat) : Int) = z % 256 by omega]; rfl
theorem k1m : tm0.good 100 := by simp [tm0, Tm.good]; rfl
theorem w7i (fail : Prop) (fu : Nat) (K : Bool → Prop) (x1 : Int) (ns : List UInt8) (hns : ns.length ≤ 20) (k n : Int) (s : ByteArray) (L A : EL) : ∀ (r i : Nat), i + r = ns.length → ∀ z : List ByteArray, z.length = i → ∃ ax : List ByteArray, ax.length = r ∧ (∀ s ∈ ax, s.size = 1) ∧
  ∀ q, r < q → p12_2L fail fu K x1 (encB ns) k n s L A q (z.map z1y) ((i : Nat) : Int) = p12_2L fail fu K x1 (encB ns) k n s L A 1 ((z ++ ax).map z1y) ((ns.length : Nat) : Int) := by
 intro r
 induction r with
 | zero =>
  intro i hi z hz
  obtain rfl : i = ns.length := by omega
  refine ⟨[], rfl, by simp, fun q hq => ?_⟩
  obtain ⟨q, rfl⟩ : ∃ m, q = m + 1 := ⟨q - 1, by omega⟩
  rw [p12_2L, p12_2, z0f, lssF (by omega), cond_false, p12_2L, p12_2, z0f, lssF (by omega), cond_false, List.append_nil]
 | succ r ih =>
  intro i hi z hz
  have hlt : i < ns.length := by omega
  obtain ⟨c, hc⟩ := k2g (97 + z0d .rem .u8 (((ns[i]).toNat : Nat) : Int) 26)
  have hc' : [[CV.v (.int .u8 (z0d .add .u8 97 (z0d .rem .u8 (((ns[i]).toNat : Nat) : Int) 26)))]] = encB [c] := hc
  obtain ⟨ax, h1, h2, h3⟩ := ih (i + 1) (by omega) (z ++ [⟨[c].toArray⟩]) (by simp; omega)
  refine ⟨⟨[c].toArray⟩ :: ax, by simp [h1], ?_, fun q hq => ?_⟩
  ·intro y hy
   rcases List.mem_cons.1 hy with rfl | hy
   ·rfl
   ·exact h2 y hy
  ·obtain ⟨q, rfl⟩ : ∃ m, q = m + 1 := ⟨q - 1, by omega⟩
   have e1 : List.take 1 [[CV.v (.int .u8 (z0d .add .u8 97 (z0d .rem .u8 (((ns[i]).toNat : Nat) : Int) 26)))]] = encB [c] := by rw [hc']; rfl
   have e2 : List.take 1 [[CV.v (.string ⟨[c].toArray⟩)]] = [(⟨[c].toArray⟩ : ByteArray)].map z1y := rfl
   rw [p12_2L, p12_2, z0f, lssT (by omega), cond_true, gd_y (by omega), gd_y (by omega), u8Row fail hlt, gd_y (by decide), gd_y (by simp), e1, z5y, gd_y (by simp), e2, gd_y (by simp; omega), ← List.map_append, addZ (by omega) (by omega), show ((i : Nat) : Int) + 1 = ((i + 1 : Nat) : Int) by omega,
    h3 q (by omega), List.append_assoc]
   rfl
theorem z8k (b : List UInt8) (e : Int) (he : 0 ≤ e ∧ e ≤ 255) (ns : List UInt8) : ∃ fu, p12 (ρ := Prop) False fu (fun y => y = true) (encB b) e (encB ns) := by
 by_cases hb : 40 < b.length
 ·refine ⟨0 + 2000000, ?_⟩
  rw [p12, z5x, Bool.not_true, cond_false, z0f, gtrT (by omega), cond_true, p12_3, cond_true]
 by_cases hn : 20 < ns.length
 ·refine ⟨0 + 2000000, ?_⟩
  rw [p12, z5x, Bool.not_true, cond_false, z0f, gtrF (by omega), cond_false, z0f, gtrT (by omega), p12_3, cond_true]
 obtain ⟨t, a', ht, _, _, M, hany⟩ := any_any (ρ := Prop) False b (by omega) 0 (by omega)
 refine ⟨M + 2000000, ?_⟩
 have hany' := hany (M + 2000000) (by omega)
 rw [p12, z5x, Bool.not_true, cond_false, z0f, gtrF (by omega), cond_false, z0f, gtrF (by omega), p12_3, cond_false, p14]
 refine (hany' _).mpr ?_
 obtain ⟨c, h2, k2⟩ := w7l (ρ := Prop) False (M + 2000000) (by omega) t
 dsimp only at h2
 rw [h2]
 cases c with
 | false => rw [Bool.not_false, cond_true]
 | true =>
 obtain ⟨tg, tp⟩ := k2 rfl
 obtain ⟨ax, a1, a2, a3⟩ := w7i False (M + 2000000) (fun y => y = true) e ns (by omega) t.k t.n t.nm (Lv.rows t.ls) (Tm.rows t.args) ns.length 0 (by omega) [] rfl
 have a4 := a3 (M + 2000000) (by omega)
 rw [Bool.not_true, cond_false]
 refine a4.mpr ?_
 have he' : IntKind.i64.wrap e = ((e.toNat : Nat) : Int) := by rw [z4q (by omega)]; omega
 have tsz := w4q 100 t tg
 rw [p12_2L, p12_2, z0f, lssF (by omega), cond_false, List.nil_append, he']
 have r1 := fun K => z8j (ρ := Prop) False (M + 2000000) (by omega) K 0 0 0 0 0 (by omega) (by omega) (by omega) (by omega) (by omega) false t tg tp 0 (by omega) ax (fun s hs => by rw [a2 s hs]; omega) (by omega)
 refine (r1 _).mpr ?_
 have r2 := fun K => z8j (ρ := Prop) False (M + 2000000) (by omega) K e.toNat 0 0 0 0 (by omega) (by omega) (by omega) (by omega) (by omega) false tm0 k1m (by decide) 0 (by omega) [] (by simp) (by simp)
 rw [gd_y (by simp)]
 refine (r2 _).mpr ?_
 rw [eqlT rfl, cond_true, cond_true]
 have s1 := fun K => z9y (ρ := Prop) False (M + 2000000) K ⟨0, 0, 0, 0, 0, false, t, 0, ax⟩ (by show t.sz + 30 ≤ _; omega) (by show t.sz < _; omega) (by show ax.length + 5 ≤ _; omega) (by show ax.length < _; omega)
 refine (s1 _).mpr ?_
 rw [cond_true]
 have s2 := fun K => z9y (ρ := Prop) False (M + 2000000) K ⟨(e.toNat : Nat), 0, 0, 0, 0, false, tm0, 0, []⟩ (by show 1 + 30 ≤ _; omega) (by show 1 < 1099511627776; omega) (by show 0 + 5 ≤ _; omega) (by show 0 < 1099511627776; omega)
 refine (s2 _).mpr ?_
 rw [p12_1]
theorem d_p14 (fu : Nat) {K0 : EL → Int → Prop} (L : EL → Nat) (hN : L = List.length) {x0 : EL} (h : p14 False fu K0 x0) : Den Try.prog G0 14 [.c (.sl 1 x0 none)] (fun r bs => (∃ (y0 : EL) (y1 : Int) (o0 : OV),(r = .ptr [.c (.sl 1 y0 none),.c (.v (.int .i64 y1))] ∧ bs = [o0]) ∧ K0 y0 y1)) := by
 obtain ⟨O,hO⟩ : ∃ O,O = std 0 T G0 (Den Try.prog G0) := ⟨_,rfl⟩
 have hLO : L = O.len := by rw [hN,hO]; rfl
 subst hLO
 refine den_h hO tiA mixed tabOk (fn := Try.f14) (sh := true) (by kernel_rfl) rfl rfl rfl rfl ?_
 intro Q hQ
 unfold p14 at h
 conv => cbv
 rw [hQ]
 exact ⟨x0,0,_,⟨(by subst hO; rfl),(by subst hO; rfl)⟩,h⟩
theorem d_p52 (fu : Nat) {K0 : Int → EL → Int → Prop} (L : EL → Nat) (hN : L = List.length) {x0 : EL} {x1 x2 : Int} (h : p52 False fu K0 x0 x1 x2) : Den Try.prog G0 52 [.ptr [.c (.sl 1 x0 none),.c (.v (.int .i64 x1))],.c (.v (.int .i64 x2))] (fun r bs => (∃ (y0 : Int) (y1 : EL) (y2 : Int) (o1 : OV),(r = .c (.v (.int .i64 y0)) ∧ bs = [.ptr [.c (.sl 1 y1 none),.c (.v (.int .i64 y2))],o1]) ∧ K0 y0 y1 y2)) := by
 obtain ⟨O,hO⟩ : ∃ O,O = std 1 T G0 (Den Try.prog G0) := ⟨_,rfl⟩
 have hLO : L = O.len := by rw [hN,hO]; rfl
 subst hLO
 refine den_h hO tiA mixed tabOk (fn := Try.f52) (sh := true) (by kernel_rfl) rfl rfl rfl rfl ?_
 intro Q hQ
 unfold p52 at h
 conv => cbv
 refine z0y hO tiA [[]] [(0,true,false),(1,true,false),(2,true,false),(3,true,false),(4,true,false),(5,true,false),(6,true,false),(7,true,false),(8,true,false),(9,true,true),(10,true,true),(11,true,true),(12,true,true),(13,true,true)] (by kernel_rfl) [0,1,18] [0] [] (fun tm m => ∃ (j1 : Bool),((tm = frame 0 40 [(0,.p 0 0 0),(1,.c (.v (.int .i64 x2))),(18,.c (.v (.bool j1)))] ∧ m = ⟨[(0,.blk 0 [.c (.sl 1 x0 none),.c (.v (.int .i64 x1))])],2⟩)) ∧ p52_1 False fu K0 x0 x1 x2 j1) (fun L hL_1 => ?_) ?_
 conv => cbv
 refine br_h hO h (by subst hO; rfl) (fun hc2 h => ?_) (fun hc2 h => ?_)
 conv => cbv
 refine br_t hO hc2 ?_
 conv => cbv
 refine br_t hO hc2 ?_
 conv => cbv
 exact hL_1 _ _ ⟨true,⟨(by (conv => lhs; cbv) <;> (subst hO; rfl)),(by (conv => lhs; cbv) <;> (subst hO; rfl))⟩,h⟩
 conv => cbv
 refine br_f hO hc2 ?_
 conv => cbv
 refine br_f hO hc2 ?_
 conv => cbv
 exact hL_1 _ _ ⟨(z0a .lss x2 1),⟨(by (conv => lhs; cbv) <;> (subst hO; rfl)),(by (conv => lhs; cbv) <;> (subst hO; rfl))⟩,h⟩
 rintro tm m ⟨j1,hs,h⟩
 unfold p52_1 at h
 obtain ⟨rfl,rfl⟩ := hs
 conv => cbv
 refine br_h hO h (by subst hO; rfl) (fun hc1 h => ?_) (fun hc1 h => ?_)
 conv => cbv
 rw [hQ]
 exact ⟨0,x0,x1,_,⟨(by subst hO; rfl),(by subst hO; rfl)⟩,h⟩
 conv => cbv
 refine z0b hO ?_
 conv => cbv
 refine z0i hO tiA [[]] [(0,true,false),(1,true,false),(2,true,false),(3,true,false),(4,true,false),(5,true,false),(6,true,false),(7,true,false),(8,true,false),(9,true,false),(10,true,false),(11,true,false),(12,true,false),(13,true,false),(14,true,true)] (by kernel_rfl) ?_
 conv => cbv
 refine and_h h (fun g => (by subst hO; exact g)) (fun h => ?_)
 refine and_h h (fun g => (by subst hO; exact g)) (fun h => ?_)
 obtain ⟨c2,hr,h⟩ := z3y h
 refine z0o hO _ (by subst hO; exact hr) ?_
 clear hr
 conv => cbv
 refine and_h h (fun g => (by subst hO; exact g)) (fun h => ?_)
 refine z0b hO ?_
 conv => cbv
 rw [hQ]
 exact ⟨z0d .rem .i64 (IntKind.i64.wrap c2) x2,x0,z0d .add .i64 x1 1,_,⟨(by subst hO; rfl),(by subst hO; rfl)⟩,h⟩
theorem d_p152 (fu : Nat) {K0 : ByteArray → Int → Int → Int → Int → Int → Prop} (L : EL → Nat) (hN : L = List.length) {x0 : ByteArray} {x1 x2 x3 x4 x5 : Int} (h : p152 False fu K0 x0 x1 x2 x3 x4 x5) : Den Try.prog G0 152 [.ptr [.c (.v (.string x0)),.c (.v (.int .i64 x1)),.c (.v (.int .i64 x2)),.c (.v (.int .i64 x3)),.c (.v (.int .i64 x4)),.c (.v (.int .i64 x5))]] (fun r bs => (∃ (y0 : ByteArray) (y1 y2 y3 y4 y5 : Int),(r = .tup [] ∧ bs = [.ptr [.c (.v (.string y0)),.c (.v (.int .i64 y1)),.c (.v (.int .i64 y2)),.c (.v (.int .i64 y3)),.c (.v (.int .i64 y4)),.c (.v (.int .i64 y5))]]) ∧ K0 y0 y1 y2 y3 y4 y5)) := by
 obtain ⟨O,hO⟩ : ∃ O,O = std 1 T G0 (Den Try.prog G0) := ⟨_,rfl⟩
 have hLO : L = O.len := by rw [hN,hO]; rfl
 subst hLO
 refine den_h hO tiA mixed tabOk (fn := Try.f152) (sh := true) (by kernel_rfl) rfl rfl rfl rfl ?_
 intro Q hQ
 unfold p152 at h
 conv => cbv
 refine z0s hO tiA [0] [0] [] (fun (n : Nat) tm m => ∃ (z1 : Int),((tm = frame 0 43 [(0,.p 0 0 0)] ∧ m = ⟨[(0,.blk 0 [.c (.v (.string x0)),.c (.v (.int .i64 z1)),.c (.v (.int .i64 x2)),.c (.v (.int .i64 x3)),.c (.v (.int .i64 x4)),.c (.v (.int .i64 x5))])],2⟩)) ∧ p152_2L False fu K0 x0 x2 x3 x4 x5 n z1) (fun n => n) fu ⟨x1,⟨(by (conv => lhs; cbv) <;> (subst hO; rfl)),(by (conv => lhs; cbv) <;> (subst hO; rfl))⟩,h⟩ ?_
 rintro n1 tm m L ⟨z1,hs,h⟩ hLn1
 (cases n1 with
 | zero => rw [p152_2L] at h; exact h.elim
 | succ n1 =>
 rw [p152_2L] at h
 unfold p152_2 at h
 obtain ⟨rfl,rfl⟩ := hs
 conv => cbv
 refine z0y hO tiA [[]] [(0,true,false),(1,true,false),(2,true,false),(3,true,false),(4,true,false),(5,true,false),(6,true,false),(7,true,false),(8,true,false),(9,true,false),(10,true,false),(11,true,false),(12,true,false),(13,true,false),(14,true,false),(15,true,false),(16,true,false),(17,true,false),(18,true,false),(19,true,false),(20,true,false),(21,true,false),(22,true,false),(23,true,false),(24,true,false),(25,true,false),(26,true,false),(27,true,false),(28,true,false),(29,true,false),(30,true,false),(31,true,false),(32,true,true),(33,true,false)] (by kernel_rfl) [0,35] [0] [] (fun tm m => ∃ (j2 : Bool),((tm = frame 0 43 [(0,.p 0 0 0),(35,.c (.v (.bool j2)))] ∧ m = ⟨[(0,.blk 0 [.c (.v (.string x0)),.c (.v (.int .i64 z1)),.c (.v (.int .i64 x2)),.c (.v (.int .i64 x3)),.c (.v (.int .i64 x4)),.c (.v (.int .i64 x5))])],2⟩)) ∧ p152_1 False fu K0 (p152_2L False fu K0 x0 x2 x3 x4 x5 n1) x0 x2 x3 x4 x5 z1 j2) (fun L hL_1 => ?_) ?_
 conv => cbv
 refine br_h hO h (by subst hO; rfl) (fun hc2 h => ?_) (fun hc2 h => ?_)
 conv => cbv
 refine br_t hO hc2 ?_
 conv => cbv
 refine br_t hO hc2 ?_
 conv => cbv
 refine br_t hO hc2 ?_
 conv => cbv
 refine br_t hO hc2 ?_
 conv => cbv
 refine br_t hO hc2 ?_
 conv => cbv
 refine br_t hO hc2 ?_
 conv => cbv
 refine br_t hO hc2 ?_
 conv => cbv
 refine br_t hO hc2 ?_
 conv => cbv
 refine and_h h (fun g => (by subst hO; exact g)) (fun h => ?_)
 refine and_h h (fun g => (by subst hO; exact g)) (fun h => ?_)
 refine br_t hO hc2 ?_
 conv => cbv
 refine br_t hO hc2 ?_
 conv => cbv
 refine br_h hO h (by subst hO; rfl) (fun hc3 h => ?_) (fun hc3 h => ?_)
 conv => cbv
 refine br_t hO hc3 ?_
 conv => cbv
 refine br_t hO hc3 ?_
 conv => cbv
 refine br_t hO hc3 ?_
 conv => cbv
 refine br_t hO hc3 ?_
 conv => cbv
 refine br_t hO hc3 ?_
 conv => cbv
 refine br_t hO hc3 ?_
 conv => cbv
 refine br_t hO hc3 ?_
 conv => cbv
 refine br_t hO hc3 ?_
 conv => cbv
 refine br_t hO hc3 ?_
 conv => cbv
 refine br_t hO hc2 ?_
 conv => cbv
 refine br_t hO hc3 ?_
 conv => cbv
 refine br_t hO hc2 ?_
 conv => cbv
 exact hL_1 _ _ ⟨true,⟨(by (conv => lhs; cbv) <;> (subst hO; rfl)),(by (conv => lhs; cbv) <;> (subst hO; rfl))⟩,h⟩
 conv => cbv
 refine br_f hO hc3 ?_
 conv => cbv
 refine br_f hO hc3 ?_
 conv => cbv
 refine br_f hO hc3 ?_
 conv => cbv
 refine br_f hO hc3 ?_
 conv => cbv
 refine br_f hO hc3 ?_
 conv => cbv
 refine br_f hO hc3 ?_
 conv => cbv
 refine br_f hO hc3 ?_
 conv => cbv
 refine br_f hO hc3 ?_
 conv => cbv
 refine and_h h (fun g => (by subst hO; exact g)) (fun h => ?_)
 refine and_h h (fun g => (by subst hO; exact g)) (fun h => ?_)
 refine br_f hO hc3 ?_
 conv => cbv
 refine br_t hO hc2 ?_
 conv => cbv
 refine br_f hO hc3 ?_
 conv => cbv
 refine br_t hO hc2 ?_
 conv => cbv
 exact hL_1 _ _ ⟨(z0a .eql ((List.getD x0.data.toList (z1 : Int).toNat 0).toNat : Nat) 10),⟨(by (conv => lhs; cbv) <;> (subst hO; rfl)),(by (conv => lhs; cbv) <;> (subst hO; rfl))⟩,h⟩
 conv => cbv
 refine br_f hO hc2 ?_
 conv => cbv
 refine br_f hO hc2 ?_
 conv => cbv
 refine br_f hO hc2 ?_
 conv => cbv
 refine br_f hO hc2 ?_
 conv => cbv
 refine br_f hO hc2 ?_
 conv => cbv
 refine br_f hO hc2 ?_
 conv => cbv
 refine br_f hO hc2 ?_
 conv => cbv
 refine br_f hO hc2 ?_
 conv => cbv
 refine br_f hO hc2 ?_
 conv => cbv
 refine br_f hO hc2 ?_
 conv => cbv
 refine br_f hO hc2 ?_
 conv => cbv
 refine br_f hO hc2 ?_
 conv => cbv
 exact hL_1 _ _ ⟨false,⟨(by (conv => lhs; cbv) <;> (subst hO; rfl)),(by (conv => lhs; cbv) <;> (subst hO; rfl))⟩,h⟩
 rintro tm m ⟨j2,hs,h⟩
 unfold p152_1 at h
 obtain ⟨rfl,rfl⟩ := hs
 conv => cbv
 refine br_h hO h (by subst hO; rfl) (fun hc1 h => ?_) (fun hc1 h => ?_)
 conv => cbv
 refine z0b hO ?_
 conv => cbv
 exact hLn1 n1 _ _ (Nat.lt_succ_self n1) ⟨z0d .add .i64 z1 1,⟨(by (conv => lhs; cbv) <;> (subst hO; rfl)),(by (conv => lhs; cbv) <;> (subst hO; rfl))⟩,h⟩
 conv => cbv
 rw [hQ]
 exact ⟨x0,z1,x2,x3,x4,x5,⟨(by subst hO; rfl),(by subst hO; rfl)⟩,h⟩)
theorem d_p145 (fu : Nat) {K0 : Int → ByteArray → Int → Int → Int → Int → Int → Prop} (L : EL → Nat) (hN : L = List.length) {x0 : ByteArray} {x1 x2 x3 x4 x5 : Int} (h : p145 False fu K0 x0 x1 x2 x3 x4 x5) : Den Try.prog G0 145 [.ptr [.c (.v (.string x0)),.c (.v (.int .i64 x1)),.c (.v (.int .i64 x2)),.c (.v (.int .i64 x3)),.c (.v (.int .i64 x4)),.c (.v (.int .i64 x5))]] (fun r bs => (∃ (y0 : Int) (y1 : ByteArray) (y2 y3 y4 y5 y6 : Int),(r = .c (.v (.int .u8 y0)) ∧ bs = [.ptr [.c (.v (.string y1)),.c (.v (.int .i64 y2)),.c (.v (.int .i64 y3)),.c (.v (.int .i64 y4)),.c (.v (.int .i64 y5)),.c (.v (.int .i64 y6))]]) ∧ K0 y0 y1 y2 y3 y4 y5 y6)) := by
 obtain ⟨O,hO⟩ : ∃ O,O = std 1 T G0 (Den Try.prog G0) := ⟨_,rfl⟩
 have hLO : L = O.len := by rw [hN,hO]; rfl
 subst hLO
 refine den_h hO tiA mixed tabOk (fn := Try.f145) (sh := true) (by kernel_rfl) rfl rfl rfl rfl ?_
 intro Q hQ
 unfold p145 at h
 conv => cbv
 refine z0c hO [.ref 6] (d_p152 fu O.len hN h) ?_
 intro os Q hos hQ
 conv => cbv
 refine ⟨(by (rw [hos]) <;> (subst hO; rfl)),?_⟩
 intro r bs hq
 rw [hQ] at hq
 clear hos hQ h
 obtain ⟨y1,y2,y3,y4,y5,y6,⟨rfl,rfl⟩,h⟩ := hq
 conv => cbv
 refine z0y hO tiA [[]] [(0,true,false),(1,true,false),(2,true,false),(3,true,false),(4,true,false),(5,true,false),(6,true,false),(7,true,false),(8,true,false),(9,true,false),(10,true,false),(11,true,false),(12,true,false),(13,true,false),(14,true,false),(15,true,true),(16,true,true)] (by kernel_rfl) [0,21] [0] [] (fun tm m => ∃ (j7 : Bool),((tm = frame 0 31 [(0,.p 0 0 0),(21,.c (.v (.bool j7)))] ∧ m = ⟨[(0,.blk 0 [.c (.v (.string y1)),.c (.v (.int .i64 y2)),.c (.v (.int .i64 y3)),.c (.v (.int .i64 y4)),.c (.v (.int .i64 y5)),.c (.v (.int .i64 y6))])],2⟩)) ∧ p145_1 False fu K0 y1 y2 y3 y4 y5 y6 j7) (fun L hL_1 => ?_) ?_
 conv => cbv
 refine br_h hO h (by subst hO; rfl) (fun hc2 h => ?_) (fun hc2 h => ?_)
 conv => cbv
 refine br_t hO hc2 ?_
 conv => cbv
 refine br_t hO hc2 ?_
 conv => cbv
 refine br_t hO hc2 ?_
 conv => cbv
 refine br_t hO hc2 ?_
 conv => cbv
 refine br_t hO hc2 ?_
 conv => cbv
 refine br_t hO hc2 ?_
 conv => cbv
 refine br_t hO hc2 ?_
 conv => cbv
 refine br_t hO hc2 ?_
 conv => cbv
 refine br_t hO hc2 ?_
 conv => cbv
 refine br_t hO hc2 ?_
 conv => cbv
 exact hL_1 _ _ ⟨true,⟨(by (conv => lhs; cbv) <;> (subst hO; rfl)),(by (conv => lhs; cbv) <;> (subst hO; rfl))⟩,h⟩
 conv => cbv
 refine br_f hO hc2 ?_
 conv => cbv
 refine br_f hO hc2 ?_
 conv => cbv
 refine br_f hO hc2 ?_
 conv => cbv
 refine br_f hO hc2 ?_
 conv => cbv
 refine br_f hO hc2 ?_
 conv => cbv
 refine br_f hO hc2 ?_
 conv => cbv
 refine br_f hO hc2 ?_
 conv => cbv
 refine br_f hO hc2 ?_
 conv => cbv
 refine br_f hO hc2 ?_
 conv => cbv
 refine br_f hO hc2 ?_
 conv => cbv
 exact hL_1 _ _ ⟨(z0a .geq y2 ((y1.size : Nat) : Int)),⟨(by (conv => lhs; cbv) <;> (subst hO; rfl)),(by (conv => lhs; cbv) <;> (subst hO; rfl))⟩,h⟩
 rintro tm m ⟨j7,hs,h⟩
 unfold p145_1 at h
 obtain ⟨rfl,rfl⟩ := hs
 conv => cbv
 refine br_h hO h (by subst hO; rfl) (fun hc1 h => ?_) (fun hc1 h => ?_)
 conv => cbv
 rw [hQ]
 exact ⟨0,y1,y2,y3,y4,y5,y6,⟨(by subst hO; rfl),(by subst hO; rfl)⟩,h⟩
 conv => cbv
 refine z0b hO ?_
 conv => cbv
 refine z0i hO tiA [[]] [(0,true,false),(1,true,false),(2,true,false),(3,true,false),(4,true,false),(5,true,false),(6,true,false),(7,true,false),(8,true,true),(9,true,true)] (by kernel_rfl) ?_
 conv => cbv
 refine and_h h (fun g => (by subst hO; exact g)) (fun h => ?_)
 refine and_h h (fun g => (by subst hO; exact g)) (fun h => ?_)
 refine z0b hO ?_
 conv => cbv
 rw [hQ]
 exact ⟨((List.getD y1.data.toList (y2 : Int).toNat 0).toNat : Nat),y1,y2,y3,y4,y5,y6,⟨(by subst hO; rfl),(by subst hO; rfl)⟩,h⟩
theorem d_p146 (fu : Nat) {K0 : Bool → Prop} (L : EL → Nat) (hN : L = List.length) {x0 : Int} (h : p146 False fu K0 x0) : Den Try.prog G0 146 [.c (.v (.int .u8 x0))] (fun r bs => (∃ (y0 : Bool) (o0 : OV),(r = .c (.v (.bool y0)) ∧ bs = [o0]) ∧ K0 y0)) := by
 obtain ⟨O,hO⟩ : ∃ O,O = std 0 T G0 (Den Try.prog G0) := ⟨_,rfl⟩
 have hLO : L = O.len := by rw [hN,hO]; rfl
 subst hLO
 refine den_h hO tiA mixed tabOk (fn := Try.f146) (sh := true) (by kernel_rfl) rfl rfl rfl rfl ?_
 intro Q hQ
 unfold p146 at h
 conv => cbv
 refine z0l hO tiA [2] [] [] (fun tm m => ∃ (j1 : Bool),((tm = frame 0 17 [(2,.c (.v (.bool j1)))] ∧ m = ⟨[],1⟩)) ∧ p146_1 False fu K0 j1) (fun L hL_1 => ?_) ?_
 conv => cbv
 refine br_h hO h (by subst hO; rfl) (fun hc1 h => ?_) (fun hc1 h => ?_)
 conv => cbv
 refine br_t hO hc1 ?_
 conv => cbv
 refine br_t hO hc1 ?_
 conv => cbv
 refine br_h hO h (by subst hO; rfl) (fun hc2 h => ?_) (fun hc2 h => ?_)
 conv => cbv
 refine br_t hO hc2 ?_
 conv => cbv
 refine br_t hO hc2 ?_
 conv => cbv
 refine br_t hO hc2 ?_
 conv => cbv
 refine br_t hO hc2 ?_
 conv => cbv
 exact hL_1 _ _ ⟨true,⟨(by (conv => lhs; cbv) <;> (subst hO; rfl)),(by (conv => lhs; cbv) <;> (subst hO; rfl))⟩,h⟩
 conv => cbv
 refine br_f hO hc2 ?_
 conv => cbv
 refine br_f hO hc2 ?_
 conv => cbv
 refine br_h hO h (by subst hO; rfl) (fun hc3 h => ?_) (fun hc3 h => ?_)
 conv => cbv
 refine br_t hO hc3 ?_
 conv => cbv
 refine br_f hO hc2 ?_
 conv => cbv
 refine br_t hO hc3 ?_
 conv => cbv
 refine br_f hO hc2 ?_
 conv => cbv
 exact hL_1 _ _ ⟨(z0a .leq x0 90),⟨(by (conv => lhs; cbv) <;> (subst hO; rfl)),(by (conv => lhs; cbv) <;> (subst hO; rfl))⟩,h⟩
 conv => cbv
 refine br_f hO hc3 ?_
 conv => cbv
 refine br_f hO hc2 ?_
 conv => cbv
 refine br_f hO hc3 ?_
 conv => cbv
 refine br_f hO hc2 ?_
 conv => cbv
 exact hL_1 _ _ ⟨false,⟨(by (conv => lhs; cbv) <;> (subst hO; rfl)),(by (conv => lhs; cbv) <;> (subst hO; rfl))⟩,h⟩
 conv => cbv
 refine br_f hO hc1 ?_
 conv => cbv
 refine br_f hO hc1 ?_
 conv => cbv
 refine br_f hO rfl ?_
 conv => cbv
 refine br_f hO rfl ?_
 conv => cbv
 refine br_f hO rfl ?_
 conv => cbv
 refine br_h hO h (by subst hO; rfl) (fun hc4 h => ?_) (fun hc4 h => ?_)
 conv => cbv
 refine br_t hO hc4 ?_
 conv => cbv
 refine br_f hO rfl ?_
 conv => cbv
 refine br_t hO hc4 ?_
 conv => cbv
 refine br_f hO rfl ?_
 conv => cbv
 exact hL_1 _ _ ⟨(z0a .leq x0 90),⟨(by (conv => lhs; cbv) <;> (subst hO; rfl)),(by (conv => lhs; cbv) <;> (subst hO; rfl))⟩,h⟩
 conv => cbv
 refine br_f hO hc4 ?_
 conv => cbv
 refine br_f hO rfl ?_
 conv => cbv
 refine br_f hO hc4 ?_
 conv => cbv
 refine br_f hO rfl ?_
 conv => cbv
 exact hL_1 _ _ ⟨false,⟨(by (conv => lhs; cbv) <;> (subst hO; rfl)),(by (conv => lhs; cbv) <;> (subst hO; rfl))⟩,h⟩
 rintro tm m ⟨j1,hs,h⟩
 unfold p146_1 at h
 obtain ⟨rfl,rfl⟩ := hs
 conv => cbv
 rw [hQ]
 exact ⟨j1,_,⟨(by subst hO; rfl),(by subst hO; rfl)⟩,h⟩
end Go.Proofs.Ythncmjlcmlmnmaa
